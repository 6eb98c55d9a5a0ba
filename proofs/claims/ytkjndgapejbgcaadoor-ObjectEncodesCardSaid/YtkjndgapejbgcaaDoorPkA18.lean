/- An object as an argument, opened. Left: do the marks behind a copied object's lists stand? -/
import Derived.Test.YtkjndgapejbgcaaDoorPkA6
import Derived.Test.YtkjndgapejbgcaaDoorPkA17
import Derived.ProofKit
import Derived.OpenShut
import Derived.BigRegion

namespace Go.Proofs.YtkjndgapejbgcaaDoor
open Go.RowKit Go.ChangeShapes Go.WideShapes
set_option linter.unusedSimpArgs false

theorem cut_at {α : Type} (L : List α) (i n : Nat) : L.drop i = (L.drop i).take n ++ L.drop (i + n) := by
  have := List.take_append_drop n (L.drop i)
  rw [List.drop_drop] at this
  exact this.symm
theorem all_u8 : ∀ cs : List Value, (∀ i, i < cs.length → ∃ b : Nat, cs[i]? = some (.int .u8 (b : Int)) ∧ b < 256) → ∃ l : List Nat, cs = u8s l ∧ ∀ b ∈ l, b < 256
  | [], _ => ⟨[], rfl, by simp⟩
  | c :: cs, h => by
    obtain ⟨b, hb, hlt⟩ := h 0 (by simp)
    obtain ⟨l, rfl, hl⟩ := all_u8 cs fun i hi => by simpa using h (i + 1) (by simpa using hi)
    simp only [List.getElem?_cons_zero, Option.some.injEq] at hb
    refine ⟨b :: l, by rw [hb]; rfl, ?_⟩
    intro x hx
    rcases List.mem_cons.1 hx with rfl | hx
    · exact hlt
    · exact hl x hx
/-- What the numbers keep to. -/
def okK (x : Key32) : Prop := ∀ b ∈ x.1, b < 256
def okP (x : PartT) : Prop := okK x.1 ∧ x.2 < 18446744073709551616
def okI (x : ItemT) : Prop := x.1.size ≤ maxLen ∧ x.2.1 < 256 ∧ x.2.2.1 < 18446744073709551616 ∧ okK x.2.2.2
structure Good (o : ObjT) : Prop where
  kind : o.kind < 256
  ps : ∀ x ∈ o.parts, okP x
  xs : ∀ x ∈ o.items, okI x
  ks : ∀ x ∈ o.parents, okK x
  tree : okK o.tree
  time : -9223372036854775808 ≤ o.time ∧ o.time ≤ 9223372036854775807
  note : o.note.size ≤ maxLen

section
variable {H : Type} {enc : TypeId × Value → H} {P : Program} {W : World} {base : Nat} {spare : Nat → Bool} {held : Bool}
/-- An array of bytes: its numbers. -/
theorem cells_u8s {t e : TypeId} {n fuel : Nat} {cs : List Value} {x : DataW H × List MemPlace} (ht : P.underlying t = some (.array n e)) (he : P.underlying e = some (.int .u8)) (hc : P.cellsOf e = 1) (hl : P.cellsOf t = n)
    (h : DataW.trod enc P W base spare held fuel t cs = some x) : ∃ l : List Nat, cs = u8s l ∧ l.length = n ∧ ∀ b ∈ l, b < 256 := by
  obtain ⟨xs, m, _, _, hcl, hxl, hg⟩ := DataW.trod_array ht h
  rw [hl] at hcl
  have h1 : ∀ i, i < n → ∃ b : Nat, cs[i]? = some (.int .u8 (b : Int)) ∧ b < 256 := fun i hi => by
    have hg1 := hg i hi
    rw [hc, Nat.mul_one, List.getElem?_eq_getElem (by omega), List.drop_eq_getElem_cons (by omega)] at hg1
    simp only [List.take_succ_cons, List.take_zero] at hg1
    obtain ⟨b, hb, hlt⟩ := cell_u8 he hg1
    exact ⟨b, by rw [List.getElem?_eq_getElem (by omega), hb], hlt⟩
  obtain ⟨l, rfl, hb⟩ := all_u8 cs fun i hi => h1 i (by omega)
  rw [u8s_length] at hcl
  exact ⟨l, rfl, hcl, hb⟩
theorem cell_u64 {t : TypeId} {fuel : Nat} {c0 : List Value} {y : DataW H × List MemPlace} (ht : P.underlying t = some (.int .u64)) (h : DataW.trod enc P W base spare held fuel t c0 = some y) : ∃ b : Nat, c0 = [.int .u64 (b : Int)] ∧ b < 18446744073709551616 := by
  obtain ⟨b, hb, _, hw⟩ := DataW.trod_int ht h
  have hw2 : 0 ≤ b ∧ b < 18446744073709551616 := by
    simp [Lit.wf, IntKind.min, IntKind.max, IntKind.signed, IntKind.bits] at hw
    omega
  exact ⟨b.toNat, by rw [hb, Int.toNat_of_nonneg hw2.1], by omega⟩
theorem cells_u8 {t : TypeId} {fuel : Nat} {c0 : List Value} {y : DataW H × List MemPlace} (ht : P.underlying t = some (.int .u8)) (h : DataW.trod enc P W base spare held fuel t c0 = some y) : ∃ b : Nat, c0 = [.int .u8 (b : Int)] ∧ b < 256 := by
  obtain ⟨b, hb, _, hw⟩ := DataW.trod_int ht h
  have hw2 : 0 ≤ b ∧ b < 256 := by
    simp [Lit.wf, IntKind.min, IntKind.max, IntKind.signed, IntKind.bits] at hw
    omega
  exact ⟨b.toNat, by rw [hb, Int.toNat_of_nonneg hw2.1], by omega⟩
/-- A slice of elements of several cells, as a row. -/
theorem slice_row {α : Type} (f : α → List Value) {k : Nat} (hk : ∀ x, (f x).length = k) {ok : α → Prop} {t e : TypeId} {fuel : Nat} {cs : List Value} {y : DataW H × List MemPlace} (ht : P.underlying t = some (.slice e)) (hc : P.cellsOf e = k) (hs : 0 < k)
    (hf : ∀ n c y, DataW.trod enc P W base spare held n e c = some y → c.length = k → ∃ z, c = f z ∧ ok z) (z0 : α)
    (h : DataW.trod enc P W base spare held fuel t cs = some y) :
    ∃ (A : Option Addr) (cap : Nat) (zs : List α), cs = [.slice A zs.length cap] ∧ Row f k W W.heap.size A zs ∧ Held y.1 zs.length ∧ ∀ x ∈ zs, ok x := by
  obtain ⟨A, cap, zs, Ds, h1, _, _, h2, h3, h4, h5⟩ := cell_slice_d (ok := fun z _ => ok z) f ht hc hs hf z0 h
  refine ⟨A, cap, zs, h1, ?_, by rw [← h3]; exact h4.held_, fun x hx => ?_⟩
  · refine Rd.congr h2 fun j hj => ?_
    have hq : j / k < zs.length := Nat.div_lt_of_lt_mul (by rwa [Nat.mul_comm] at hj)
    have := flat_get hk zs (j / k) (j % k) hq (Nat.mod_lt _ hs)
    rw [Nat.mul_comm, Nat.div_add_mod] at this
    rw [this, List.getElem?_eq_getElem hq, Option.getD_some]
  · obtain ⟨i, hi, rfl⟩ := List.mem_iff_getElem.1 hx
    have := h5 i hi
    rwa [List.getElem?_eq_getElem hi, Option.getD_some] at this
end

section
variable {H : Type} {enc : TypeId × Value → H} {W : World} {base : Nat} {spare : Nat → Bool} {held : Bool}
theorem ku : Tryd.prog.cellsOf 5 = 1 := by kernel_rfl
theorem kk : Tryd.prog.cellsOf 28 = 32 := by kernel_rfl
theorem kz : Tryd.prog.cellsOf 45 = 1 := by kernel_rfl
theorem ks : Tryd.prog.cellsOf 9 = 1 := by kernel_rfl
theorem km : Tryd.prog.cellsOf 48 = 1 := by kernel_rfl
theorem key_open {n : Nat} {c : List Value} {y : DataW H × List MemPlace} (h : DataW.trod enc Tryd.prog W base spare held n 28 c = some y) : ∃ z : Key32, c = encK z ∧ okK z := by
  obtain ⟨l, rfl, hl, hb⟩ := cells_u8s Tryd.underlying28 Tryd.underlying5 ku kk h
  exact ⟨⟨l, hl⟩, rfl, hb⟩
theorem part_open {n : Nat} {c : List Value} {y : DataW H × List MemPlace} (h : DataW.trod enc Tryd.prog W base spare held n 47 c = some y) (hc : c.length = 33) : ∃ z : PartT, c = encP z ∧ okP z := by
  obtain ⟨xs, m, _, _, _, hxl, hg⟩ := DataW.trod_struct Tryd.underlying47 h
  match xs, hxl with
  | [x0, x1], _ =>
    have g0 : DataW.trod enc Tryd.prog W base spare held m 28 ((c.drop 0).take (Tryd.prog.cellsOf 28)) = some x0 := hg 0 _ rfl
    have g1 : DataW.trod enc Tryd.prog W base spare held m 45 ((c.drop 32).take (Tryd.prog.cellsOf 45)) = some x1 := hg 1 _ rfl
    rw [kk] at g0
    rw [kz] at g1
    obtain ⟨k, e0, hk⟩ := key_open g0
    obtain ⟨z, e1, hz⟩ := cell_u64 Tryd.underlying45 g1
    refine ⟨(k, z), ?_, hk, hz⟩
    have s0 := cut_at c 0 32
    have s1 := cut_at c 32 1
    rw [List.drop_eq_nil_of_le (show c.length ≤ 32 + 1 by omega), List.append_nil] at s1
    rw [List.drop_zero] at s0
    rw [List.drop_zero] at e0
    rw [s0, s1, e0, e1]
    rfl
theorem item_open {n : Nat} {c : List Value} {y : DataW H × List MemPlace} (h : DataW.trod enc Tryd.prog W base spare held n 50 c = some y) (hc : c.length = 35) : ∃ z : ItemT, c = encI z ∧ okI z := by
  obtain ⟨xs, m, _, _, _, hxl, hg⟩ := DataW.trod_struct Tryd.underlying50 h
  match xs, hxl with
  | [x0, x1, x2, x3], _ =>
    have g0 : DataW.trod enc Tryd.prog W base spare held m 9 ((c.drop 0).take (Tryd.prog.cellsOf 9)) = some x0 := hg 0 _ rfl
    have g1 : DataW.trod enc Tryd.prog W base spare held m 48 ((c.drop 1).take (Tryd.prog.cellsOf 48)) = some x1 := hg 1 _ rfl
    have g2 : DataW.trod enc Tryd.prog W base spare held m 45 ((c.drop 2).take (Tryd.prog.cellsOf 45)) = some x2 := hg 2 _ rfl
    have g3 : DataW.trod enc Tryd.prog W base spare held m 28 ((c.drop 3).take (Tryd.prog.cellsOf 28)) = some x3 := hg 3 _ rfl
    rw [ks] at g0
    rw [km] at g1
    rw [kz] at g2
    rw [kk] at g3
    obtain ⟨s, e0, _, hs⟩ := DataW.trod_string Tryd.underlying9 g0
    obtain ⟨mo, e1, hm⟩ := cells_u8 Tryd.underlying48 g1
    obtain ⟨z, e2, hz⟩ := cell_u64 Tryd.underlying45 g2
    obtain ⟨k, e3, hk⟩ := key_open g3
    refine ⟨(s, mo, z, k), ?_, hs, hm, hz, hk⟩
    have s0 := cut_at c 0 1
    have s1 := cut_at c 1 1
    have s2 := cut_at c 2 1
    have s3 := cut_at c 3 32
    rw [List.drop_eq_nil_of_le (show c.length ≤ 3 + 32 by omega), List.append_nil] at s3
    rw [List.drop_zero] at s0
    rw [List.drop_zero] at e0
    rw [s0, s1, s2, s3, e0, e1, e2, e3]
    rfl
end

section
variable {H : Type} {enc : TypeId × Value → H}
set_option maxRecDepth 100000 in
theorem object_open (W : World) (base : Nat) (v0 : Value) (d0 : DataW H) (p0 : List MemPlace)
    (o0 : Value.okWide Tryd.prog W .any base 31 v0) (h0 : DataW.Trod enc Tryd.prog W 0 (fun _ => true) true 31 v0 d0 p0)
    {ts : List TypeId} {ds : List (DataW H)} {jj : Nat} (hsz : (DataW.weightsEach Tryd.prog ts ds).all (· ≤ reachBytes) = true) (hj : ts[jj]? = some 31) (hd : ds[jj]? = some d0) :
    ∃ o p, v0 = .agg (ocells o p).toArray ∧ ObjIn W W.heap.size o p ∧ Fit o ∧ Good o := by
  obtain ⟨cs, rfl, hcs⟩ := okWide_struct Tryd.underlying31 o0
  obtain ⟨fuel, hf0⟩ := h0
  obtain ⟨xs, m, _, hx, _, hxl, hg⟩ := DataW.trod_struct Tryd.underlying31 hf0
  have h39 : cs.toList.length = 39 := by rw [Array.length_toList, hcs]; kernel_rfl
  have k1 : Tryd.prog.cellsOf 23 = 1 := by kernel_rfl
  have k2 : Tryd.prog.cellsOf 24 = 1 := by kernel_rfl
  have k3 : Tryd.prog.cellsOf 25 = 1 := by kernel_rfl
  have k4 : Tryd.prog.cellsOf 26 = 1 := by kernel_rfl
  have k5 : Tryd.prog.cellsOf 29 = 1 := by kernel_rfl
  have k6 : Tryd.prog.cellsOf 2 = 1 := by kernel_rfl
  match xs, hxl with
  | [x0, x1, x2, x3, x4, x5, x6, x7], _ =>
    have g0 : DataW.trod enc Tryd.prog W 0 (fun _ => true) true m 23 ((cs.toList.drop 0).take (Tryd.prog.cellsOf 23)) = some x0 := hg 0 _ rfl
    have g1 : DataW.trod enc Tryd.prog W 0 (fun _ => true) true m 24 ((cs.toList.drop 1).take (Tryd.prog.cellsOf 24)) = some x1 := hg 1 _ rfl
    have g2 : DataW.trod enc Tryd.prog W 0 (fun _ => true) true m 25 ((cs.toList.drop 2).take (Tryd.prog.cellsOf 25)) = some x2 := hg 2 _ rfl
    have g3 : DataW.trod enc Tryd.prog W 0 (fun _ => true) true m 26 ((cs.toList.drop 3).take (Tryd.prog.cellsOf 26)) = some x3 := hg 3 _ rfl
    have g4 : DataW.trod enc Tryd.prog W 0 (fun _ => true) true m 28 ((cs.toList.drop 4).take (Tryd.prog.cellsOf 28)) = some x4 := hg 4 _ rfl
    have g5 : DataW.trod enc Tryd.prog W 0 (fun _ => true) true m 29 ((cs.toList.drop 36).take (Tryd.prog.cellsOf 29)) = some x5 := hg 5 _ rfl
    have g6 : DataW.trod enc Tryd.prog W 0 (fun _ => true) true m 2 ((cs.toList.drop 37).take (Tryd.prog.cellsOf 2)) = some x6 := hg 6 _ rfl
    have g7 : DataW.trod enc Tryd.prog W 0 (fun _ => true) true m 9 ((cs.toList.drop 38).take (Tryd.prog.cellsOf 9)) = some x7 := hg 7 _ rfl
    rw [k1] at g0
    rw [k2] at g1
    rw [k3] at g2
    rw [k4] at g3
    rw [kk] at g4
    rw [k5] at g5
    rw [k6] at g6
    rw [ks] at g7
    obtain ⟨kd, e0, hkd⟩ := cells_u8 Tryd.underlying23 g0
    have hd1 : ∃ c, (cs.toList.drop 1).take 1 = [c] := by
      rw [List.drop_eq_getElem_cons (by omega)]
      exact ⟨_, rfl⟩
    obtain ⟨c1, hc1⟩ := hd1
    rw [hc1] at g1
    obtain ⟨A1, n1, dl, e1, _, _, r1, hh1, b1⟩ := cell_bytes Tryd.underlying24 Tryd.underlying5 ku g1
    rw [e1] at hc1
    obtain ⟨A2, n2, pl, e2, r2, hh2, b2⟩ := slice_row encP encP_length (ok := okP) Tryd.underlying25 (by kernel_rfl) (by decide) (fun n c y hy hc => part_open hy hc) (zK, 0) g2
    obtain ⟨A3, n3, il, e3, r3, hh3, b3⟩ := slice_row encI encI_length (ok := okI) Tryd.underlying26 (by kernel_rfl) (by decide) (fun n c y hy hc => item_open hy hc) mkI g3
    obtain ⟨tr, e4, b4⟩ := key_open g4
    obtain ⟨A5, n5, kl, e5, r5, hh5, b5⟩ := slice_row encK encK_length (ok := okK) Tryd.underlying29 (by kernel_rfl) (by decide) (fun n c y hy _ => key_open hy) zK g5
    have hd6 : ∃ c, (cs.toList.drop 37).take 1 = [c] := by
      rw [List.drop_eq_getElem_cons (by omega)]
      exact ⟨_, rfl⟩
    obtain ⟨c6, hc6⟩ := hd6
    rw [hc6] at g6
    obtain ⟨tm, e6, b6⟩ := cell_i64 Tryd.underlying2 g6
    rw [e6] at hc6
    obtain ⟨nt, e7, _, b7⟩ := DataW.trod_string Tryd.underlying9 g7
    simp only [Prod.mk.injEq] at hx
    obtain ⟨rfl, _⟩ := hx
    have hp := reach_struct (j := jj) hsz hj hd Tryd.underlying31
    have l1 := hh1.reach (j := 1) (size := 1) hp rfl rfl Tryd.underlying24 (by kernel_rfl)
    have l2 := hh2.reach (j := 2) (size := 40) hp rfl rfl Tryd.underlying25 (by kernel_rfl)
    have l3 := hh3.reach (j := 3) (size := 64) hp rfl rfl Tryd.underlying26 (by kernel_rfl)
    have l5 := hh5.reach (j := 5) (size := 32) hp rfl rfl Tryd.underlying29 (by kernel_rfl)
    refine ⟨⟨kd, dl, pl, il, tr, kl, tm, nt⟩, ⟨A1, A2, A3, A5, n1, n2, n3, n5⟩, ?_, ⟨r1, r2, r3, r5⟩, ⟨by simp only; omega, by simp only; omega, by simp only; omega, by simp only; omega, b1⟩, ⟨hkd, b2, b3, b5, b4, b6, b7⟩⟩
    congr 1
    apply Array.toList_inj.1
    have s0 := cut_at cs.toList 0 1
    have s1 := cut_at cs.toList 1 1
    have s2 := cut_at cs.toList 2 1
    have s3 := cut_at cs.toList 3 1
    have s4 := cut_at cs.toList 4 32
    have s5 := cut_at cs.toList 36 1
    have s6 := cut_at cs.toList 37 1
    have s7 := cut_at cs.toList 38 1
    rw [List.drop_eq_nil_of_le (show cs.toList.length ≤ 38 + 1 by omega), List.append_nil] at s7
    rw [List.drop_zero] at s0
    rw [List.drop_zero] at e0
    rw [s0, s1, s2, s3, s4, s5, s6, s7, e0, hc1, e2, e3, e4, e5, hc6, e7]
    rfl
end
end Go.Proofs.YtkjndgapejbgcaaDoor

namespace Go.Proofs.YtkjndgapejbgcaaDoor
open Go.RowKit
set_option linter.unusedSimpArgs false

set_option maxRecDepth 100000 in
set_option maxHeartbeats 1000000 in
theorem clean_any (w : World) (b : List Nat) (A : Option Addr) (B cc : Nat) (ho : Own w B 5 1 A (b.length + 70) cc (u8s (marked b 70))) (hL : b.length ≤ 140737488355328) :
    Calls Tryd.prog 21 #[.slice A b.length cc] w fun e w' => e = .returned (.bool true) ∧ w = w' := by
  obtain ⟨L, hLL⟩ : ∃ L, Hid (∀ _ : Unit, b.length = L) := ⟨_, Lib.hid fun _ => rfl⟩
  rw [hLL.out ()] at hL ho ⊢
  obtain ⟨g, rfl⟩ := ho.head (by omega)
  have hle := ho.le
  have ho' := Lib.hid ho
  clear ho
  have hsl : ∀ W : World, (Instr.slice 24 (.slice (some ⟨g, 0, none⟩) L cc) none (some (.int .i64 ((L : Int) + 70))) none).run Tryd.prog W = .ok (.slice (some ⟨g, 0, none⟩) (L + 70) cc) W := fun W => by
    have hs : (sizeOf (Tryd.prog.elem 24)).run Tryd.prog W = .ok 1 W := by kernel_rfl
    rw [run_slice_h W 24 _ L cc (by rw [Tryd.underlying24]; kernel_rfl) .i64 ((L : Int) + 70) (by omega) (by omega), hs]
    simp only [Result.andThen, sliced, Nat.zero_mul, Nat.sub_zero]
    rw [if_neg (by omega), show ((L : Int) + 70).toNat = L + 70 by omega]
    simp [Addr.add_lit]
  go_enter Tryd.func21, Tryd.ntmps21
  go_wp2_with fail
  go_loop [4] (fun i => ∃ k : Nat, L ≤ k ∧ k ≤ L + 70 ∧ i = .int .i64 k) (fun i => L + 70 - (intOf i).toNat)
  case atStart => exact ⟨L, by omega, by omega, rfl⟩
  case round =>
    obtain ⟨k, hk, hk2, rfl⟩ := hrel
    by_cases hlt : k < L + 70
    · have hc := ho'.out.cell k (by omega)
      have e : (u8s (marked b 70))[k]? = some (.int .u8 165) := by
        rw [u8s_get _ _ (by rw [marked_length, hLL.out ()]; exact hlt), marked, List.getElem?_append_right (by rw [hLL.out ()]; exact hk), List.getElem?_replicate, if_pos (by rw [hLL.out ()]; omega)]
        rfl
      rw [e] at hc
      clear e
      go_wp2_with fail
      go_round
      case rel => exact ⟨k + 1, by omega, by omega, by go_num⟩
      case measure => simp [intOf]; omega
    · go_wp2_with fail
      go_ret
      exact ⟨rfl, rfl⟩

section
variable {P : Program} {ops : Array Oper} {rest : List Oper} {o : Oper} {a : Act} {w : World} {Q : Exit → Act → World → Prop}
theorem wpList_built (hw : Region.wanted o (yielded ops a.tmps) = true) (t : TypeId) (parts : Array (Nat × Operand)) (vs : Array (Nat × Value)) (ho : o.op = .build t parts) (hv : (parts.map fun (i, x) => (i, a.eval x)) = vs) (v : Value)
    (hr : (Instr.build t vs).run P w = .ok v w) (h : wpList P ops Q rest (a.put o.dst v) w) : wpList P ops Q (o :: rest) a w :=
  wpList_step fun K hK => by
    rw [if_pos hw]
    unfold Oper.wp execOp
    simp only [ho, hv, Sem.run_bind, hr, Result.andThen_ok]
    exact hK _ _ h
end
theorem zeroKey (w : World) : (zeroValue 28).run Tryd.prog w = .ok (.agg (encK zK).toArray) w :=
  (zero_of_info (P := Tryd.prog) (t := 28) (v := .agg (encK zK).toArray) (n := 32) (by kernel_rfl)).1 w

/-- A mark behind a row. -/
theorem mark_range {α : Type} {enc : α → List Value} {k : Nat} (hk : ∀ x, (enc x).length = k) {w : World} {B : Nat} {e : TypeId} {g c n : Nat} {l : List α} {m : α} (h : Own w B e k (some ⟨g, 0, none⟩) (n + 2) c (flat enc (l ++ [m, m]))) (hn : l.length = n) {j : Nat} (hj : n ≤ j) (hj2 : j < n + 2) : w.rangeAt g (j * k) (enc m) := fun i v hv => by
  have hi : i < k := by
    have := (List.getElem?_eq_some_iff.1 hv).1
    rwa [hk] at this
  have h1 : (j + 1) * k ≤ (n + 2) * k := Nat.mul_le_mul_right _ hj2
  rw [Nat.add_mul j 1 k, Nat.one_mul] at h1
  have hc := h.cell (j * k + i) (by omega)
  have hjl : j < (l ++ [m, m]).length := by simp; omega
  have hget : (l ++ [m, m])[j] = m := by
    have h2 : (l ++ [m, m])[j]? = some m := by
      rw [List.getElem?_append_right (by omega)]
      have : j - l.length = 0 ∨ j - l.length = 1 := by omega
      rcases this with h3 | h3 <;> rw [h3] <;> rfl
    rw [List.getElem?_eq_getElem hjl] at h2
    exact Option.some.inj h2
  rw [hc, flat_get hk _ j i hjl hi, hget, hv]

set_option maxRecDepth 100000 in
set_option maxHeartbeats 4000000 in
theorem left_any (w : World) (o : ObjT) (p : Lay) (B : Nat) (hl : LentK w B o p 4) (hf : Fit o) :
    Calls Tryd.prog 17 #[.agg (ocells o p).toArray] w fun e w' => e = .returned (.bool true) ∧ Below w.heap.size w w' := by
  have hi32 : (Tryd.prog.info? 28).map (·.size) = some 32 := by kernel_rfl
  have hi33 : (Tryd.prog.info? 47).map (·.size) = some 33 := by kernel_rfl
  have hi35 : (Tryd.prog.info? 50).map (·.size) = some 35 := by kernel_rfl
  have hi32' := Lib.hid hi32
  have hi33' := Lib.hid hi33
  have hi35' := Lib.hid hi35
  have zk := zeroKey
  have oP := hl.ps (by omega); have oI := hl.xs (by omega); have oK := hl.ks (by omega)
  obtain ⟨gp, hgp⟩ := oP.head (by omega)
  obtain ⟨gi, hgi⟩ := oI.head (by omega)
  obtain ⟨gk, hgk⟩ := oK.head (by omega)
  obtain ⟨np, hnp⟩ : ∃ n, Hid (∀ _ : Unit, o.parts.length = n) := ⟨_, Lib.hid fun _ => rfl⟩
  obtain ⟨ni, hni⟩ : ∃ n, Hid (∀ _ : Unit, o.items.length = n) := ⟨_, Lib.hid fun _ => rfl⟩
  obtain ⟨nk, hnk⟩ : ∃ n, Hid (∀ _ : Unit, o.parents.length = n) := ⟨_, Lib.hid fun _ => rfl⟩
  have lp : np * 40 ≤ 140737488355328 := by rw [← hnp.out ()]; exact hf.ps
  have li : ni * 64 ≤ 140737488355328 := by rw [← hni.out ()]; exact hf.xs
  have lk : nk * 32 ≤ 140737488355328 := by rw [← hnk.out ()]; exact hf.ks
  rw [hgp, hnp.out ()] at oP
  rw [hgi, hni.out ()] at oI
  rw [hgk, hnk.out ()] at oK
  have lep := oP.le; have lei := oI.le; have lek := oK.le
  have hoa : OBlk (w.alloc (.cells (ocells o p).toArray 31)) w.heap.size o p := heap_alloc_new w _
  have c1 := hoa.c1; have c2 := hoa.c2; have c3 := hoa.c3; have c36 := hoa.c36
  rw [hgp, hnp.out ()] at c2
  rw [hgi, hni.out ()] at c3
  rw [hgk, hnk.out ()] at c36
  have slP : ∀ W : World, (Instr.slice 25 (.slice (some ⟨gp, 0, none⟩) np p.cp) none (some (.int .i64 ((np : Int) + 2))) none).run Tryd.prog W = .ok (.slice (some ⟨gp, 0, none⟩) (np + 2) p.cp) W := fun W => by
    have hs : (sizeOf (Tryd.prog.elem 25)).run Tryd.prog W = .ok 33 W := by kernel_rfl
    rw [run_slice_h W 25 _ np p.cp (by rw [Tryd.underlying25]; kernel_rfl) .i64 ((np : Int) + 2) (by omega) (by omega), hs]
    simp only [Result.andThen, sliced, Nat.zero_mul, Nat.sub_zero]
    rw [if_neg (by omega), show ((np : Int) + 2).toNat = np + 2 by omega]
    simp [Addr.add_lit]
  have slI : ∀ W : World, (Instr.slice 26 (.slice (some ⟨gi, 0, none⟩) ni p.ci) none (some (.int .i64 ((ni : Int) + 2))) none).run Tryd.prog W = .ok (.slice (some ⟨gi, 0, none⟩) (ni + 2) p.ci) W := fun W => by
    have hs : (sizeOf (Tryd.prog.elem 26)).run Tryd.prog W = .ok 35 W := by kernel_rfl
    rw [run_slice_h W 26 _ ni p.ci (by rw [Tryd.underlying26]; kernel_rfl) .i64 ((ni : Int) + 2) (by omega) (by omega), hs]
    simp only [Result.andThen, sliced, Nat.zero_mul, Nat.sub_zero]
    rw [if_neg (by omega), show ((ni : Int) + 2).toNat = ni + 2 by omega]
    simp [Addr.add_lit]
  have slK : ∀ W : World, (Instr.slice 29 (.slice (some ⟨gk, 0, none⟩) nk p.ck) none (some (.int .i64 ((nk : Int) + 2))) none).run Tryd.prog W = .ok (.slice (some ⟨gk, 0, none⟩) (nk + 2) p.ck) W := fun W => by
    have hs : (sizeOf (Tryd.prog.elem 29)).run Tryd.prog W = .ok 32 W := by kernel_rfl
    rw [run_slice_h W 29 _ nk p.ck (by rw [Tryd.underlying29]; kernel_rfl) .i64 ((nk : Int) + 2) (by omega) (by omega), hs]
    simp only [Result.andThen, sliced, Nat.zero_mul, Nat.sub_zero]
    rw [if_neg (by omega), show ((nk : Int) + 2).toNat = nk + 2 by omega]
    simp [Addr.add_lit]
  have qP : ∀ W, (binOp .eql 47 (.agg (encP mkP).toArray) (.agg (encP mkP).toArray)).run Tryd.prog W = .ok (.bool true) W := fun W => by rw [eqP]; simp
  have qI : ∀ W, (binOp .eql 50 (.agg (encI mkI).toArray) (.agg (encI mkI).toArray)).run Tryd.prog W = .ok (.bool true) W := fun W => by rw [eqI]; simp
  have qK : ∀ W, (binOp .eql 28 (.agg (encK mkK).toArray) (.agg (encK mkK).toArray)).run Tryd.prog W = .ok (.bool true) W := fun W => by rw [eqK]; simp
  have uP := fun op a b => guP op a b (encP mkP).toArray (encP mkP).toArray
  have uI := fun op a b => guI op a b (encI mkI).toArray (encI mkI).toArray
  have uK := fun op a b => guK op a b (encK mkK).toArray (encK mkK).toArray
  have oP' := Lib.hid oP; have oI' := Lib.hid oI; have oK' := Lib.hid oK
  have hl' := Lib.hid hl
  have hf' := Lib.hid hf
  have hoa' := Lib.hid hoa
  have hkk' := Lib.hid (show (encK mkK).toArray.size = 32 by simp [encK_length])
  have hkz' := Lib.hid (show (encK zK).toArray.size = 32 by simp [encK_length])
  have hone' := Lib.hid (show (encK mkK).toArray.all (·.oneCell') = true from all_oneCell_toArray (encK_one mkK))
  clear hl hf hi32 hi33 hi35 oP oI oK hgp hgi hgk hoa
  go_enter Tryd.func17, Tryd.ntmps17
  go_wp2_with (first
    | (refine wpList_built rfl 28 _ #[(9, .int .u8 92)] rfl (by rw [List.map_toArray]; rfl) _ (buildK _) ?_)
    | (refine wpList_built rfl 47 _ #[(1, .int .u64 92)] rfl (by rw [List.map_toArray]; rfl) _ (buildP _) ?_)
    | (refine wpList_built rfl 50 _ #[(2, .int .u64 92)] rfl (by rw [List.map_toArray]; rfl) _ (buildI _) ?_)
    | (refine wpList_store_row rfl 28 _ _ rfl (w.heap.size + 1) (encK mkK).toArray rfl rfl 28 _ (heap_alloc2_new w _ _) (by rw [hkk'.out]; exact hi32'.out) (by rw [hkk'.out, hkz'.out]) hone'.out ?_
       have hN := setRow_heap _ (w.heap.size + 1) _ (encK mkK).toArray 28 _ (heap_alloc2_new w (.cells (ocells o p).toArray 31) (.cells (encK zK).toArray 28))
       have hBl : Below w.heap.size w (((w.alloc (.cells (ocells o p).toArray 31)).alloc (.cells (encK zK).toArray 28)).setRow (w.heap.size + 1) (encK mkK).toArray) := setRow_below (((Below.refl _ _).alloc (Nat.le_refl _) _).alloc (by simp) _) (by omega) _
       have hob : OBlk (((w.alloc (.cells (ocells o p).toArray 31)).alloc (.cells (encK zK).toArray 28)).setRow (w.heap.size + 1) (encK mkK).toArray) w.heap.size o p := (setRow_other _ (w.heap.size + 1) w.heap.size _ (by omega)).trans (heap_alloc2_old w _ _)
       generalize (((w.alloc (.cells (ocells o p).toArray 31)).alloc (.cells (encK zK).toArray 28)).setRow (w.heap.size + 1) (encK mkK).toArray) = w3 at hN hBl hob ⊢
       have hl3 := hl'.out.below hBl
       have rP1 := Lib.hid (mark_range encP_length (oP'.out.below hBl (fun j hj => (oP'.out.lt j hj).2)) (hnp.out ()) (j := np + 2 - 1) (by omega) (by omega))
       have rP2 := Lib.hid (mark_range encP_length (oP'.out.below hBl (fun j hj => (oP'.out.lt j hj).2)) (hnp.out ()) (j := np + 2 - 2) (by omega) (by omega))
       have rI1 := Lib.hid (mark_range encI_length (oI'.out.below hBl (fun j hj => (oI'.out.lt j hj).2)) (hni.out ()) (j := ni + 2 - 1) (by omega) (by omega))
       have rI2 := Lib.hid (mark_range encI_length (oI'.out.below hBl (fun j hj => (oI'.out.lt j hj).2)) (hni.out ()) (j := ni + 2 - 2) (by omega) (by omega))
       have rK1 := Lib.hid (mark_range encK_length (oK'.out.below hBl (fun j hj => (oK'.out.lt j hj).2)) (hnk.out ()) (j := nk + 1) (by omega) (by omega))
       have rK2 := Lib.hid (mark_range encK_length (oK'.out.below hBl (fun j hj => (oK'.out.lt j hj).2)) (hnk.out ()) (j := nk) (by omega) (by omega))
       have c1 := hob.c1
       have hN' := Lib.hid hN; have hBl' := Lib.hid hBl; have hl3' := Lib.hid hl3
       clear hN hBl hob hl3 oP' oI' oK' hl' hoa' slP slI slK c2 c3 c36
       skip)
    | (refine wpList_load_mid_g rfl 47 _ rfl gp ((np + 2 - 1) * 33) rfl (encP mkP) _ rP1.out Tryd.underlying47 rfl (by rw [encP_length]; exact hi33'.out) ?_)
    | (refine wpList_load_mid_g rfl 47 _ rfl gp ((np + 2 - 2) * 33) rfl (encP mkP) _ rP2.out Tryd.underlying47 rfl (by rw [encP_length]; exact hi33'.out) ?_)
    | (refine wpList_load_mid_g rfl 50 _ rfl gi ((ni + 2 - 1) * 35) rfl (encI mkI) _ rI1.out Tryd.underlying50 rfl (by rw [encI_length]; exact hi35'.out) ?_)
    | (refine wpList_load_mid_g rfl 50 _ rfl gi ((ni + 2 - 2) * 35) rfl (encI mkI) _ rI2.out Tryd.underlying50 rfl (by rw [encI_length]; exact hi35'.out) ?_))
  have hcl := Lib.hid (fun n : Nat => clean_any (w3.drewN n) o.data p.Ad B p.cd (by exact hl3'.out.d (by omega)) hf'.out.d)
  have ld1 : Hid (∀ q, (loadVar 28 ⟨gk, (nk + 1) * 32, none⟩).run Tryd.prog (w3.drewN q) = .ok (.agg (encK mkK).toArray) (w3.drewN q)) := Lib.hid fun q => run_loadVar_mid (w3.drewN q) gk _ 28 (encK mkK) _ (fun j v hv => rK1.out j v hv) Tryd.underlying28 rfl (by rw [encK_length]; exact hi32'.out)
  have ld2 : Hid (∀ q, (loadVar 28 ⟨gk, nk * 32, none⟩).run Tryd.prog (w3.drewN q) = .ok (.agg (encK mkK).toArray) (w3.drewN q)) := Lib.hid fun q => run_loadVar_mid (w3.drewN q) gk _ 28 (encK mkK) _ (fun j v hv => rK2.out j v hv) Tryd.underlying28 rfl (by rw [encK_length]; exact hi32'.out)
  have ld3 : Hid (∀ q, (loadVar 28 ⟨w.heap.size + 1, 0, none⟩).run Tryd.prog (w3.drewN q) = .ok (.agg (encK mkK).toArray) (w3.drewN q)) := Lib.hid fun q => run_loadVar_mid (w3.drewN q) (w.heap.size + 1) 0 28 (encK mkK) _ (fun j v hv => by rw [Nat.zero_add]; exact (cell_of_row w3 _ _ _ _ _ hN'.out).trans (by simpa using hv)) Tryd.underlying28 rfl (by rw [encK_length]; exact hi32'.out)
  have hw1 : IntKind.i64.wrap ((nk : Int) + 2 - 1) = (nk : Int) + 1 := by rw [IntKind.wrap_i64]; omega
  have hw2 : IntKind.i64.wrap ((nk : Int) + 2 - 2) = (nk : Int) := by rw [IntKind.wrap_i64]; omega
  have hw7 : IntKind.i64.wrap (nk : Int) = (nk : Int) := by rw [IntKind.wrap_i64]; omega
  have hw3 : (0 : Int) ≤ (nk : Int) + 1 := by omega
  have hw4 : (nk : Int) + 1 < (nk : Int) + 2 := by omega
  have hw5 : (nk : Int) < (nk : Int) + 2 := by omega
  have hw6 : ((nk : Int) + 1).toNat = nk + 1 := by omega
  refine wp_region_quiet_lit (by kernel_rfl) (by kernel_rfl) ?_
  iterate 2 (quiet_step (fail))
  quiet_step (exact quiet_e (hcl.out _))
  iterate 12 (quiet_step (fail))
  refine wpQuiet_load_mid rfl 28 _ rfl gk ((nk + 1) * 32) rfl _ (by rintro _ ⟨m, rfl⟩; exact ld1.out m) ?_
  refine wpQuiet_load_mid rfl 28 _ rfl (w.heap.size + 1) 0 rfl _ (by rintro _ ⟨m, rfl⟩; exact ld3.out m) ?_
  iterate 8 (quiet_step (fail))
  refine wpQuiet_load_mid rfl 28 _ rfl gk (nk * 32) rfl _ (by rintro _ ⟨m, rfl⟩; exact ld2.out m) ?_
  refine wpQuiet_load_mid rfl 28 _ rfl (w.heap.size + 1) 0 rfl _ (by rintro _ ⟨m, rfl⟩; exact ld3.out m) ?_
  iterate 3 (quiet_step (fail))
  refine wpQuiet_nil ?_
  rintro _ ⟨nq, rfl⟩
  go_wp2_with fail
  go_ret
  exact ⟨rfl, below_drewN hBl'.out _⟩
end Go.Proofs.YtkjndgapejbgcaaDoor

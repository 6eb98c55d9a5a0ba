/- The document's Hex, value, Parse. -/
import Derived.Test.YtlolnpilpdkbkaaDoorKxC
import Derived.Laws.Concat
import Derived.Laws.BitsAllLaws
namespace Go.Proofs.YtlolnpilpdkbkaaDoor
open Go.RowKit
set_option linter.unusedSimpArgs false
set_option linter.unusedVariables false

theorem dig_slice (q : Nat) (hq : q < 16) (W : World) : (Instr.sliceAt 9 (.string ⟨#[48, 49, 50, 51, 52, 53, 54, 55, 56, 57, 97, 98, 99, 100, 101, 102]⟩) (some (.int .u8 (q : Int))) (some (.int .u8 ((q : Int) + 1))) none).run Tryd.prog W = .ok (.string ⟨#[dg q]⟩) W := by
  rcases (show q = 0 ∨ q = 1 ∨ q = 2 ∨ q = 3 ∨ q = 4 ∨ q = 5 ∨ q = 6 ∨ q = 7 ∨ q = 8 ∨ q = 9 ∨ q = 10 ∨ q = 11 ∨ q = 12 ∨ q = 13 ∨ q = 14 ∨ q = 15 by omega) with rfl | rfl | rfl | rfl | rfl | rfl | rfl | rfl | rfl | rfl | rfl | rfl | rfl | rfl | rfl | rfl <;> kernel_rfl
theorem str_snoc (m : List UInt8) (c : UInt8) (hm : m.length ≤ 1000) (W : World) : (binOp .add 9 (.string ⟨m.toArray⟩) (.string ⟨#[c]⟩)).run Tryd.prog W = .ok (.string ⟨(m ++ [c]).toArray⟩) W := by
  have h : ¬ 9223372036854775807 < m.length + 1 := by omega
  simp [go_sem, h]
  exact ByteArray.mk_append_mk m [c]
theorem str_snoc2 (m : List UInt8) (c : UInt8) (hm : m.length ≤ 1000) (W : World) : (Op.stringOp .add ⟨m.toArray⟩ ⟨#[c]⟩).run Tryd.prog W = .ok (.string ⟨(m ++ [c]).toArray⟩) W := by
  have h : ¬ 9223372036854775807 < m.length + 1 := by omega
  simp [go_sem, h]
  exact ByteArray.mk_append_mk m [c]
theorem and15 (x : Nat) (hx : x < 256) : bits .and .u8 (x : Int) 15 = ((x % 16 : Nat) : Int) := by
  have := u8_and_nat x 15 hx (by decide)
  rw [show x &&& 15 = x % 16 from Nat.and_two_pow_sub_one_eq_mod x 4] at this
  exact this
set_option maxRecDepth 100000 in
set_option maxHeartbeats 2000000 in
theorem refHex_any (l : List Nat) (w : World) (hl : l.length = 32) (hb : ∀ x ∈ l, x < 256) :
    Calls Tryd.prog 9 #[.agg (u8s l).toArray] w fun e w' => e = .returned (.string ⟨(hexL l).toArray⟩) ∧ Below w.heap.size w w' := by
  obtain ⟨g, hg⟩ : ∃ g, w.heap.size = g := ⟨_, rfl⟩
  obtain ⟨ka, hka⟩ : ∃ ka, (u8s l).toArray = ka := ⟨_, rfl⟩
  obtain ⟨w1, hw1⟩ : ∃ w1, w.alloc (.cells ka 24) = w1 := ⟨_, rfl⟩
  have k1 : Hid (BlkY w1 g l) := Lib.hid (by rw [← hw1, ← hka, ← hg]; exact BlkY.new w l)
  have hB : Hid (Below w.heap.size w w1) := Lib.hid (by rw [← hw1]; exact (Below.refl _ _).alloc (Nat.le_refl _) _)
  obtain ⟨T, hT⟩ : ∃ T, Hid (∀ _ : Unit, hexL l = T) := ⟨_, Lib.hid fun _ => rfl⟩
  rw [hT.out (), hka]
  have hl' := Lib.hid hl
  have hb' := Lib.hid hb
  clear hl hb hka
  go_enter Tryd.func9, Tryd.ntmps9
  go_wp2_with fail
  clear hw1
  go_loopw [3, 4] (fun sv iv wr => ∃ (i n : Nat) (m : List UInt8), i ≤ 32 ∧ m.length = 2 * i ∧ sv = .string ⟨m.toArray⟩ ∧ iv = .int .i64 (i : Int) ∧ Hid (∀ _ : Unit, hexL (l.take i) = m) ∧ wr = w1.drewN n) (fun _ iv _ => 32 - (intOf iv).toNat)
  case atStart => exact ⟨0, 0, [], by omega, rfl, rfl, rfl, Lib.hid fun _ => rfl, rfl⟩
  case round =>
    obtain ⟨i, n, m, hi, hml, rfl, rfl, hm, hwr⟩ := hrel
    have hwr' := Lib.hid hwr
    have hml' := Lib.hid hml
    have j1 : Hid (BlkY wr g l) := Lib.hid (by rw [hwr]; exact k1.out)
    have hBr : Hid (Below w.heap.size w wr) := Lib.hid (by rw [hwr]; exact below_drewN hB.out n)
    clear hwr
    by_cases hlt : i < 32
    · obtain ⟨x, hx⟩ : ∃ x, Hid (l[i]? = some x) := ⟨_, Lib.hid (List.getElem?_eq_getElem (by rw [hl'.out]; exact hlt))⟩
      have hx256 := hb'.out x (List.mem_of_getElem? hx.out)
      have cx := j1.out.cell (k := i) (by rw [hl'.out]; exact hlt)
      rw [hx.out, Option.getD_some] at cx
      obtain ⟨q, hq⟩ : ∃ q, x / 16 = q := ⟨_, rfl⟩
      obtain ⟨r, hr⟩ : ∃ r, x % 16 = r := ⟨_, rfl⟩
      have d1 : (x : Int) / 16 = (q : Int) := by omega
      have d2 : bits .and .u8 (x : Int) 15 = (r : Int) := by rw [and15 x hx256, hr]
      have hq16 : q < 16 := by omega
      have hr16 : r < 16 := by omega
      obtain ⟨q1, hq1⟩ : ∃ q1 : Nat, (q : Int) + 1 = (q1 : Int) := ⟨q + 1, by omega⟩
      obtain ⟨r1, hr1⟩ : ∃ r1 : Nat, (r : Int) + 1 = (r1 : Int) := ⟨r + 1, by omega⟩
      have s1 := dig_slice q hq16
      have s2 := dig_slice r hr16
      rw [hq1] at s1
      rw [hr1] at s2
      have d3 : IntKind.u8.wrap ((q : Int) + 1) = (q1 : Int) := by rw [IntKind.wrap_u8]; omega
      have d4 : IntKind.u8.wrap ((r : Int) + 1) = (r1 : Int) := by rw [IntKind.wrap_u8]; omega
      have a1 := str_snoc m (dg q) (by omega)
      have a2 := str_snoc (m ++ [dg q]) (dg r) (by simp; omega)
      have a3 := str_snoc2 m (dg q) (by omega)
      have a4 := str_snoc2 (m ++ [dg q]) (dg r) (by simp; omega)
      obtain ⟨m1, hm1⟩ : ∃ m1, m ++ [dg q] = m1 := ⟨_, rfl⟩
      obtain ⟨m2, hm2⟩ : ∃ m2, m1 ++ [dg r] = m2 := ⟨_, rfl⟩
      have hm1' := Lib.hid hm1
      have hm2' := Lib.hid hm2
      rw [hm1] at a1 a2 a3 a4
      rw [hm2] at a2 a4
      have hmn : Hid (∀ _ : Unit, hexL (l.take (i + 1)) = m2) := Lib.hid fun _ => by rw [hexL_take hx.out, hm.out (), hq, hr, hm1, hm2]
      clear hq hr hml hm hq1 hr1 hm1 hm2
      go_wp2_with fail
      go_quiet (fail)
      go_wp2_with fail
      go_roundw
      case rel => exact ⟨i + 1, _, _, by omega, by have := hml'.out; rw [← hm2'.out, ← hm1'.out]; simp; omega, rfl, by go_num, hmn, by rw [hwr'.out, World.drewN_drewN]⟩
      case measure => simp [intOf]; omega
    · have hmT : Hid (m = T) := Lib.hid (by rw [← hm.out (), List.take_of_length_le (by rw [hl'.out]; omega)]; exact hT.out ())
      clear hm hml
      go_wp2_with fail
      go_ret
      exact ⟨by first | (rw [hmT.out]; rfl) | (rw [hmT]; rfl) | rfl, hBr.out⟩
end Go.Proofs.YtlolnpilpdkbkaaDoor

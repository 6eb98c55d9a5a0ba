/- The document's Compare, From; From. -/
import Derived.Test.YtlolnpilpdkbkaaDoorParseB
import Derived.BigQuiet
namespace Go.Proofs.YtlolnpilpdkbkaaDoor
open Go.RowKit
set_option linter.unusedSimpArgs false
set_option linter.unusedVariables false

theorem cmp_drop {a b : List Nat} {i x y : Nat} (ha : a[i]? = some x) (hb : b[i]? = some y) (hx : x < 256) (hy : y < 256) :
    Lib.compareBytes (b8 (a.drop i)) (b8 (b.drop i)) = if x < y then -1 else if y < x then 1 else Lib.compareBytes (b8 (a.drop (i + 1))) (b8 (b.drop (i + 1))) := by
  obtain ⟨h1, e1⟩ := List.getElem?_eq_some_iff.1 ha
  obtain ⟨h2, e2⟩ := List.getElem?_eq_some_iff.1 hb
  rw [List.drop_eq_getElem_cons h1, List.drop_eq_getElem_cons h2, e1, e2]
  simp only [b8, List.map_cons, Lib.compareBytes]
  simp only [b8_lt hx hy, b8_lt hy hx]
set_option maxRecDepth 100000 in
set_option maxHeartbeats 1000000 in
theorem refCompare_any (w : World) (a b : List Nat) (hal : a.length = 32) (hbl : b.length = 32) (ha : ∀ x ∈ a, x < 256) (hb : ∀ x ∈ b, x < 256) :
    Calls Tryd.prog 11 #[.agg (u8s a).toArray, .agg (u8s b).toArray] w fun e w' => e = .returned (.int .i64 (Lib.compareBytes (b8 a) (b8 b))) ∧ Below w.heap.size w w' := by
  obtain ⟨g, hg⟩ : ∃ g, w.heap.size = g := ⟨_, rfl⟩
  obtain ⟨ka, hka⟩ : ∃ ka, (u8s a).toArray = ka := ⟨_, rfl⟩
  obtain ⟨kb, hkb⟩ : ∃ kb, (u8s b).toArray = kb := ⟨_, rfl⟩
  obtain ⟨w1, hw1⟩ : ∃ w1, w.alloc (.cells ka 24) = w1 := ⟨_, rfl⟩
  obtain ⟨w2, hw2⟩ : ∃ w2, w1.alloc (.cells kb 24) = w2 := ⟨_, rfl⟩
  have hs1 : w1.heap.size = g + 1 := by rw [← hw1, ← hg]; simp
  have k1 : Hid (BlkY w2 g a) := Lib.hid (by
    have h1 : BlkY w1 g a := by rw [← hw1, ← hka, ← hg]; exact BlkY.new w a
    rw [← hw2]
    exact h1.alloc _)
  have k2 : Hid (BlkY w2 (g + 1) b) := Lib.hid (by rw [← hw2, ← hkb, ← hs1]; exact BlkY.new w1 b)
  have hB : Hid (Below w.heap.size w w2) := Lib.hid (by rw [← hw2, ← hw1]; exact ((Below.refl _ _).alloc (Nat.le_refl _) _).alloc (by simp) _)
  obtain ⟨T, hT⟩ : ∃ T, Hid (∀ _ : Unit, Lib.compareBytes (b8 a) (b8 b) = T) := ⟨_, Lib.hid fun _ => rfl⟩
  rw [hT.out (), hka, hkb]
  have ha' := Lib.hid ha
  have hb' := Lib.hid hb
  have hal' := Lib.hid hal
  have hbl' := Lib.hid hbl
  clear ha hb hal hbl hka hkb
  go_enter Tryd.func11, Tryd.ntmps11
  go_wp2_with fail
  clear hw1 hw2
  go_loopw [5] (fun iv wr => ∃ i m : Nat, i ≤ 32 ∧ iv = .int .i64 (i : Int) ∧ Hid (∀ _ : Unit, Lib.compareBytes (b8 (a.drop i)) (b8 (b.drop i)) = T) ∧ wr = w2.drewN m) (fun iv _ => 32 - (intOf iv).toNat)
  case atStart => exact ⟨0, 0, by omega, rfl, Lib.hid fun _ => hT.out (), rfl⟩
  case round =>
    obtain ⟨i, m, hi, rfl, hTi, hwr⟩ := hrel
    have hwr' := Lib.hid hwr
    have j1 : Hid (BlkY wr g a) := Lib.hid (by rw [hwr]; exact k1.out)
    have j2 : Hid (BlkY wr (g + 1) b) := Lib.hid (by rw [hwr]; exact k2.out)
    have hBr : Hid (Below w.heap.size w wr) := Lib.hid (by rw [hwr]; exact below_drewN hB.out m)
    clear hwr
    by_cases hlt : i < 32
    · obtain ⟨x, hx⟩ : ∃ x, Hid (a[i]? = some x) := ⟨_, Lib.hid (List.getElem?_eq_getElem (by rw [hal'.out]; exact hlt))⟩
      obtain ⟨y, hy⟩ : ∃ y, Hid (b[i]? = some y) := ⟨_, Lib.hid (List.getElem?_eq_getElem (by rw [hbl'.out]; exact hlt))⟩
      have cx := j1.out.cell (k := i) (by rw [hal'.out]; exact hlt)
      rw [hx.out, Option.getD_some] at cx
      have cy := j2.out.cell (k := i) (by rw [hbl'.out]; exact hlt)
      rw [hy.out, Option.getD_some] at cy
      have hd := Lib.hid (cmp_drop hx.out hy.out (ha'.out x (List.mem_of_getElem? hx.out)) (hb'.out y (List.mem_of_getElem? hy.out)))
      by_cases hxy : x < y
      · have hTv : Hid (T = -1) := Lib.hid (by rw [← hTi.out (), hd.out, if_pos hxy])
        have q1 : decide ((x : Int) < (y : Int)) = true := by simp; omega
        go_wp2_with fail
        go_quiet (fail)
        go_wp2_with fail
        go_ret
        exact ⟨ret_int (by first | rw [hTv.out] | rw [hTv]), below_drewN hBr.out _⟩
      · have q1 : decide ((x : Int) < (y : Int)) = false := by simp; omega
        by_cases hyx : y < x
        · have hTv : Hid (T = 1) := Lib.hid (by rw [← hTi.out (), hd.out, if_neg hxy, if_pos hyx])
          have q2 : decide ((y : Int) < (x : Int)) = true := by simp; omega
          go_wp2_with fail
          go_quiet (fail)
          go_wp2_with fail
          go_quiet (fail)
          go_wp2_with fail
          go_ret
          exact ⟨ret_int (by first | rw [hTv.out] | rw [hTv]), below_drewN (below_drewN hBr.out _) _⟩
        · have q2 : decide ((y : Int) < (x : Int)) = false := by simp; omega
          have hTn : Hid (∀ _ : Unit, Lib.compareBytes (b8 (a.drop (i + 1))) (b8 (b.drop (i + 1))) = T) := Lib.hid fun _ => by rw [← hTi.out (), hd.out, if_neg hxy, if_neg hyx]
          go_wp2_with fail
          go_quiet (fail)
          go_wp2_with fail
          go_quiet (fail)
          go_wp2_with fail
          go_roundw
          case rel => exact ⟨i + 1, _, by omega, by go_num, hTn, by rw [hwr'.out, World.drewN_drewN]⟩
          case measure => simp [intOf]; omega
    · have hTv : Hid (T = 0) := Lib.hid (by
        rw [← hTi.out (), List.drop_of_length_le (by rw [hal'.out]; omega), List.drop_of_length_le (by rw [hbl'.out]; omega)]
        rfl)
      go_wp2_with fail
      go_ret
      exact ⟨ret_int (by first | rw [hTv.out] | rw [hTv]), hBr.out⟩
/-- What From tells. -/
def fromR (l : List Nat) : List Nat := if l.length = 32 then l else zeros 32
def fromE (l : List Nat) : Nat := if l.length = 32 then 0 else 2
def FromP (w : World) (l : List Nat) (e : Ending) (w' : World) : Prop := e = .returned (.tuple #[.agg (u8s (fromR l)).toArray, .int .i64 (fromE l : Nat)]) ∧ Below w.heap.size w w'
end Go.Proofs.YtlolnpilpdkbkaaDoor

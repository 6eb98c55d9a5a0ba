/- A decoder's Take. (Printed by tools/gentake.py.) A decoder's methods: Open, End. Words ahead of the walks of wire.Each and what it takes. -/
import Derived.Test.YtkjndgapejbgcaaDoorPkD8
import Derived.BigRegion
import Derived.Test.YtkjndgapejbgcaaDoorPkD6
import Derived.Test.YtkjndgapejbgcaaDoorPkD7
import Derived.Great.BuildSlice

namespace Go.Proofs.YtkjndgapejbgcaaDoor
open Go.RowKit
set_option linter.unusedSimpArgs false
set_option linter.unusedVariables false

theorem two8 (i : Nat) : 2 ^ (8 * i) = 256 ^ i := by rw [Nat.pow_mul]
theorem le_or {u y i N : Nat} (hu : u < 256 ^ i) (hy : y * 256 ^ i < 18446744073709551616) (hN : u + 256 ^ i * y = N) (hu64 : u < 18446744073709551616) : bits .or .u64 (u : Int) (IntKind.u64.wrap ((y : Int) * 2 ^ (8 * i))) = (N : Int) := by
  have e : (y : Int) * 2 ^ (8 * i) = ((y * 256 ^ i : Nat) : Int) := by rw [← two8]; push_cast; rfl
  have e2 : IntKind.u64.wrap (((y * 256 ^ i : Nat) : Int)) = ((y * 256 ^ i : Nat) : Int) := by rw [IntKind.wrap_u64]; omega
  rw [e, e2, u64_or_nat _ _ hu64 hy]
  have h := Nat.two_pow_add_eq_or_of_lt (i := 8 * i) (b := u) (by rw [two8]; exact hu) y
  rw [two8, Nat.or_comm, Nat.mul_comm] at h
  rw [← h]
  rw [Nat.mul_comm] at hN
  omega
theorem leN_take {x : List Nat} {i y : Nat} (h : x[i]? = some y) : leN (x.take (i + 1)) = leN (x.take i) + 256 ^ i * y := by
  obtain ⟨hlt, hy⟩ := List.getElem?_eq_some_iff.1 h
  rw [List.take_succ_eq_append_getElem hlt, leN_append, hy, List.length_take, Nat.min_eq_left (by omega)]
  simp [leN]

def Takeuint8Post (w : World) (g : Nat) (A : Option Addr) (c : Nat) (l : List Nat) (R : Nat × DSt) (e : Ending) (w' : World) : Prop :=
  e = .returned (.int .u8 ((R.1 : Int))) ∧ DecS w' g A c l R.2 ∧ w.grownBy w' (some g)
set_option maxRecDepth 20000 in
set_option maxHeartbeats 4000000 in
theorem takeuint8_any {w : World} {g c : Nat} {A : Option Addr} {l : List Nat} {s : DSt} (h : DecS w g A c l s) :
    Calls Tryd.prog 48 #[.pointer (some ⟨g, 0, none⟩)] w (Takeuint8Post w g A c l (fixM l 1 s)) := by
  have hov := Lib.hid (over_any h)
  have hlt := Lib.hid h.lt
  obtain ⟨RR, hRR⟩ : ∃ R, Hid (∀ _ : Unit, fixM l 1 s = R) := ⟨_, Lib.hid fun _ => rfl⟩
  rw [hRR.out ()]
  cases s with
  | none =>
    have h' := Lib.hid h
    clear h
    go_enter Tryd.func48, Tryd.ntmps48
    go_wp2_with (refine hov.out.mono ?_; rintro e w' ⟨rfl, rfl⟩)
    go_ret
    rw [← hRR.out ()]
    exact ⟨rfl, h'.out, grown_drewN w 0 _⟩
  | some k =>
    have c1 := DecAt.c1 h
    have h' := Lib.hid h
    by_cases hn : 1 ≤ l.length - k
    · obtain ⟨x, hx⟩ : ∃ x, Hid (∀ _ : Unit, (l.drop k).take 1 = x) := ⟨_, Lib.hid fun _ => rfl⟩
      have hxl : Hid (x.length = 1) := Lib.hid (by rw [← hx.out (), List.length_take, List.length_drop]; omega)
      have hr : Hid (fixM l 1 (some k) = (leN x, some (k + 1))) := Lib.hid (by simp [fixM, rawM, hn, hx.out ()])
      have hx256 : Hid (∀ y ∈ x, y < 256) := Lib.hid fun y hy => hlt.out y (by rw [← hx.out ()] at hy; exact List.mem_of_mem_drop (List.mem_of_mem_take hy))
      have hnx : Hid (∀ (n : Nat) (z : Int), Calls Tryd.prog 75 #[.pointer (some ⟨g, 0, none⟩), .int .i64 1, .int .i64 z] (w.drewN n) fun e w' => (∃ A' c', e = .returned (.slice A' 1 c') ∧ Byt w' w'.heap.size A' x) ∧ DecAt w' g A c l (k + 1) none ∧ (w.drewN n).grownBy w' (some g)) := Lib.hid fun n z => (next_ok (h'.out.drewN n) 1 hn z).mono fun e w' ⟨⟨A', c', he, hb, _⟩, hd, hg⟩ => ⟨⟨A', c', he, by rw [← hx.out ()]; exact hb⟩, hd, hg⟩
      clear h hn
      go_enter Tryd.func48, Tryd.ntmps48
      go_wp2_with (refine hov.out.mono ?_; rintro e w' ⟨rfl, rfl⟩)
      go_region_with (first
        | (go_at_call 68; refine (width8_any _).mono ?_; rintro e w' ⟨rfl, rfl⟩)
        | (go_at_call 75; refine (hnx.out 1 _).mono ?_; rintro e w2 ⟨⟨A2, c2, rfl, hb2⟩, h2, g2⟩))
      all_goals
        have h2' := Lib.hid h2
        have g2' := Lib.hid ((grown_drewN w _ _).trans g2)
        obtain ⟨b, off, rfl, _, hcel⟩ := hb2 (by rw [hxl.out]; decide)
        have hcel' := Lib.hid hcel
        clear h2 g2 hb2 hcel c1
        go_wp2_with fail
        go_loop [4, 18] (fun uv iv => ∃ i u : Nat, i ≤ 1 ∧ iv = .int .i64 (i : Int) ∧ uv = .int .u64 (u : Int) ∧ Hid (leN (x.take i) = u)) (fun _ iv => 1 - (intOf iv).toNat)
        case atStart => exact ⟨0, 0, by omega, rfl, rfl, Lib.hid (by simp [leN])⟩
        case round =>
          obtain ⟨i, u, hi, rfl, rfl, hu⟩ := hrel
          have hub : Hid (u < 256 ^ i) := Lib.hid (by
            rw [← hu.out]
            have h1 := leN_lt (x.take i) fun z hz => hx256.out z (List.mem_of_mem_take hz)
            have h2 : (x.take i).length = i := by rw [List.length_take, hxl.out]; omega
            rwa [h2] at h1)
          have hb8 : Hid (256 ^ i ≤ 256 ^ 1) := Lib.hid (Nat.pow_le_pow_right (by decide) hi)
          by_cases hlt2 : i < 1
          · have hix : i < x.length := by rw [hxl.out]; exact hlt2
            obtain ⟨y, hy⟩ : ∃ y, Hid (x[i]? = some y) := ⟨x[i], Lib.hid (List.getElem?_eq_getElem hix)⟩
            have hy256 : y < 256 := hx256.out y (List.mem_of_getElem? hy.out)
            have hc := hcel'.out i hix
            rw [hy.out, Option.getD_some] at hc
            obtain ⟨N, hN⟩ : ∃ N, Hid (u + 256 ^ i * y = N) := ⟨_, Lib.hid rfl⟩
            have hor : bits .or .u64 (u : Int) (IntKind.u64.wrap ((y : Int) * 2 ^ (8 * i))) = (N : Int) := le_or hub.out (by
              have h2 : 256 ^ i ≤ 256 ^ 7 := Nat.pow_le_pow_right (by decide) (by omega)
              have h3 : (256 : Nat) ^ 7 = 72057594037927936 := by decide
              have h4 : y * 256 ^ i ≤ 255 * 256 ^ i := Nat.mul_le_mul_right _ (by omega)
              omega) hN.out (by
              have h1 := hub.out
              have h2 : 256 ^ i ≤ 256 ^ 7 := Nat.pow_le_pow_right (by decide) (by omega)
              have h3 : (256 : Nat) ^ 7 = 72057594037927936 := by decide
              omega)
            have hnx2 : Hid (leN (x.take (i + 1)) = N) := Lib.hid (by rw [leN_take hy.out, hu.out, hN.out])
            clear hix
            go_wp2_with fail
            go_round
            case rel => exact ⟨i + 1, N, by omega, by go_num, rfl, hnx2⟩
            case measure => simp [intOf]; omega
          · have hfin : Hid (leN x = u) := Lib.hid (by
              have := hu.out
              rwa [List.take_of_length_le (by rw [hxl.out]; omega)] at this)
            have hu64 : u < 256 ^ 1 := Nat.lt_of_lt_of_le hub.out hb8.out
            have hm : (u : Int) % 256 = (u : Int) := by omega
            clear hu64
            go_wp2_with fail
            go_ret
            rw [← hRR.out (), hr.out]
            exact ⟨by rw [hfin.out]; rfl, h2'.out, g2'.out⟩
    · have hr : Hid (fixM l 1 (some k) = (0, none)) := Lib.hid (by simp [fixM, rawM, hn, leN])
      have hnx : Hid (∀ (n : Nat) (z : Int), Calls Tryd.prog 75 #[.pointer (some ⟨g, 0, none⟩), .int .i64 1, .int .i64 z] (w.drewN n) fun e w' => e = .returned (.slice none 0 0) ∧ DecS w' g A c l none ∧ (w.drewN n).grownBy w' (some g)) := Lib.hid fun n z => next_no (h'.out.drewN n) 1 (by omega) (by decide) z
      clear h hn
      go_enter Tryd.func48, Tryd.ntmps48
      go_wp2_with (refine hov.out.mono ?_; rintro e w' ⟨rfl, rfl⟩)
      go_region_with (first
        | (go_at_call 68; refine (width8_any _).mono ?_; rintro e w' ⟨rfl, rfl⟩)
        | (go_at_call 75; refine (hnx.out 1 _).mono ?_; rintro e w2 ⟨rfl, h2, g2⟩))
      all_goals
        have h2' := Lib.hid h2
        have g2' := Lib.hid ((grown_drewN w _ _).trans g2)
        clear h2 g2 c1
        go_wp2_with fail
        go_loop [4, 18] (fun uv iv => uv = .int .u64 0 ∧ iv = .int .i64 0) (fun _ _ => 0)
        case atStart => exact ⟨rfl, rfl⟩
        case round =>
          obtain ⟨rfl, rfl⟩ := hrel
          go_wp2_with fail
          go_ret
          rw [← hRR.out (), hr.out]
          exact ⟨rfl, h2'.out, g2'.out⟩

def Takeint64Post (w : World) (g : Nat) (A : Option Addr) (c : Nat) (l : List Nat) (R : Nat × DSt) (e : Ending) (w' : World) : Prop :=
  e = .returned (.int .i64 (wrap64 (R.1 : Int))) ∧ DecS w' g A c l R.2 ∧ w.grownBy w' (some g)
set_option maxRecDepth 20000 in
set_option maxHeartbeats 4000000 in
theorem takeint64_any {w : World} {g c : Nat} {A : Option Addr} {l : List Nat} {s : DSt} (h : DecS w g A c l s) :
    Calls Tryd.prog 88 #[.pointer (some ⟨g, 0, none⟩)] w (Takeint64Post w g A c l (fixM l 8 s)) := by
  have hov := Lib.hid (over_any h)
  have hlt := Lib.hid h.lt
  obtain ⟨RR, hRR⟩ : ∃ R, Hid (∀ _ : Unit, fixM l 8 s = R) := ⟨_, Lib.hid fun _ => rfl⟩
  rw [hRR.out ()]
  cases s with
  | none =>
    have h' := Lib.hid h
    clear h
    go_enter Tryd.func88, Tryd.ntmps88
    go_wp2_with (refine hov.out.mono ?_; rintro e w' ⟨rfl, rfl⟩)
    go_ret
    rw [← hRR.out ()]
    exact ⟨ret_int (show (0 : Int) = wrap64 ((0 : Nat) : Int) by unfold wrap64; omega), h'.out, grown_drewN w 0 _⟩
  | some k =>
    have c1 := DecAt.c1 h
    have h' := Lib.hid h
    by_cases hn : 8 ≤ l.length - k
    · obtain ⟨x, hx⟩ : ∃ x, Hid (∀ _ : Unit, (l.drop k).take 8 = x) := ⟨_, Lib.hid fun _ => rfl⟩
      have hxl : Hid (x.length = 8) := Lib.hid (by rw [← hx.out (), List.length_take, List.length_drop]; omega)
      have hr : Hid (fixM l 8 (some k) = (leN x, some (k + 8))) := Lib.hid (by simp [fixM, rawM, hn, hx.out ()])
      have hx256 : Hid (∀ y ∈ x, y < 256) := Lib.hid fun y hy => hlt.out y (by rw [← hx.out ()] at hy; exact List.mem_of_mem_drop (List.mem_of_mem_take hy))
      have hnx : Hid (∀ (n : Nat) (z : Int), Calls Tryd.prog 75 #[.pointer (some ⟨g, 0, none⟩), .int .i64 8, .int .i64 z] (w.drewN n) fun e w' => (∃ A' c', e = .returned (.slice A' 8 c') ∧ Byt w' w'.heap.size A' x) ∧ DecAt w' g A c l (k + 8) none ∧ (w.drewN n).grownBy w' (some g)) := Lib.hid fun n z => (next_ok (h'.out.drewN n) 8 hn z).mono fun e w' ⟨⟨A', c', he, hb, _⟩, hd, hg⟩ => ⟨⟨A', c', he, by rw [← hx.out ()]; exact hb⟩, hd, hg⟩
      clear h hn
      go_enter Tryd.func88, Tryd.ntmps88
      go_wp2_with (refine hov.out.mono ?_; rintro e w' ⟨rfl, rfl⟩)
      go_region_with (first
        | (go_at_call 69; refine (width64_any _).mono ?_; rintro e w' ⟨rfl, rfl⟩)
        | (go_at_call 75; refine (hnx.out 1 _).mono ?_; rintro e w2 ⟨⟨A2, c2, rfl, hb2⟩, h2, g2⟩))
      all_goals
        have h2' := Lib.hid h2
        have g2' := Lib.hid ((grown_drewN w _ _).trans g2)
        obtain ⟨b, off, rfl, _, hcel⟩ := hb2 (by rw [hxl.out]; decide)
        have hcel' := Lib.hid hcel
        clear h2 g2 hb2 hcel c1
        go_wp2_with fail
        go_loop [4, 18] (fun uv iv => ∃ i u : Nat, i ≤ 8 ∧ iv = .int .i64 (i : Int) ∧ uv = .int .u64 (u : Int) ∧ Hid (leN (x.take i) = u)) (fun _ iv => 8 - (intOf iv).toNat)
        case atStart => exact ⟨0, 0, by omega, rfl, rfl, Lib.hid (by simp [leN])⟩
        case round =>
          obtain ⟨i, u, hi, rfl, rfl, hu⟩ := hrel
          have hub : Hid (u < 256 ^ i) := Lib.hid (by
            rw [← hu.out]
            have h1 := leN_lt (x.take i) fun z hz => hx256.out z (List.mem_of_mem_take hz)
            have h2 : (x.take i).length = i := by rw [List.length_take, hxl.out]; omega
            rwa [h2] at h1)
          have hb8 : Hid (256 ^ i ≤ 256 ^ 8) := Lib.hid (Nat.pow_le_pow_right (by decide) hi)
          by_cases hlt2 : i < 8
          · have hix : i < x.length := by rw [hxl.out]; exact hlt2
            obtain ⟨y, hy⟩ : ∃ y, Hid (x[i]? = some y) := ⟨x[i], Lib.hid (List.getElem?_eq_getElem hix)⟩
            have hy256 : y < 256 := hx256.out y (List.mem_of_getElem? hy.out)
            have hc := hcel'.out i hix
            rw [hy.out, Option.getD_some] at hc
            obtain ⟨N, hN⟩ : ∃ N, Hid (u + 256 ^ i * y = N) := ⟨_, Lib.hid rfl⟩
            have hor : bits .or .u64 (u : Int) (IntKind.u64.wrap ((y : Int) * 2 ^ (8 * i))) = (N : Int) := le_or hub.out (by
              have h2 : 256 ^ i ≤ 256 ^ 7 := Nat.pow_le_pow_right (by decide) (by omega)
              have h3 : (256 : Nat) ^ 7 = 72057594037927936 := by decide
              have h4 : y * 256 ^ i ≤ 255 * 256 ^ i := Nat.mul_le_mul_right _ (by omega)
              omega) hN.out (by
              have h1 := hub.out
              have h2 : 256 ^ i ≤ 256 ^ 7 := Nat.pow_le_pow_right (by decide) (by omega)
              have h3 : (256 : Nat) ^ 7 = 72057594037927936 := by decide
              omega)
            have hnx2 : Hid (leN (x.take (i + 1)) = N) := Lib.hid (by rw [leN_take hy.out, hu.out, hN.out])
            clear hix
            go_wp2_with fail
            go_round
            case rel => exact ⟨i + 1, N, by omega, by go_num, rfl, hnx2⟩
            case measure => simp [intOf]; omega
          · have hfin : Hid (leN x = u) := Lib.hid (by
              have := hu.out
              rwa [List.take_of_length_le (by rw [hxl.out]; omega)] at this)
            have hu64 : u < 256 ^ 8 := Nat.lt_of_lt_of_le hub.out hb8.out
            skip
            clear hu64
            go_wp2_with fail
            go_ret
            rw [← hRR.out (), hr.out]
            exact ⟨by rw [hfin.out]; rfl, h2'.out, g2'.out⟩
    · have hr : Hid (fixM l 8 (some k) = (0, none)) := Lib.hid (by simp [fixM, rawM, hn, leN])
      have hnx : Hid (∀ (n : Nat) (z : Int), Calls Tryd.prog 75 #[.pointer (some ⟨g, 0, none⟩), .int .i64 8, .int .i64 z] (w.drewN n) fun e w' => e = .returned (.slice none 0 0) ∧ DecS w' g A c l none ∧ (w.drewN n).grownBy w' (some g)) := Lib.hid fun n z => next_no (h'.out.drewN n) 8 (by omega) (by decide) z
      clear h hn
      go_enter Tryd.func88, Tryd.ntmps88
      go_wp2_with (refine hov.out.mono ?_; rintro e w' ⟨rfl, rfl⟩)
      go_region_with (first
        | (go_at_call 69; refine (width64_any _).mono ?_; rintro e w' ⟨rfl, rfl⟩)
        | (go_at_call 75; refine (hnx.out 1 _).mono ?_; rintro e w2 ⟨rfl, h2, g2⟩))
      all_goals
        have h2' := Lib.hid h2
        have g2' := Lib.hid ((grown_drewN w _ _).trans g2)
        clear h2 g2 c1
        go_wp2_with fail
        go_loop [4, 18] (fun uv iv => uv = .int .u64 0 ∧ iv = .int .i64 0) (fun _ _ => 0)
        case atStart => exact ⟨rfl, rfl⟩
        case round =>
          obtain ⟨rfl, rfl⟩ := hrel
          go_wp2_with fail
          go_ret
          rw [← hRR.out (), hr.out]
          exact ⟨ret_int (show (0 : Int) = wrap64 ((0 : Nat) : Int) by unfold wrap64; omega), h2'.out, g2'.out⟩

end Go.Proofs.YtkjndgapejbgcaaDoor

namespace Go.Proofs.YtkjndgapejbgcaaDoor
open Go.RowKit
set_option linter.unusedSimpArgs false
set_option linter.unusedVariables false

/-- bytes.Clone of a slice that is not nil. -/
theorem cloneB_any {w : World} {B : Nat} {a : Addr} {l : List Nat} (hb : Byt w B (some a) l) (n c : Nat) (hn : l.length = n) (hs : n ≤ 140737488355328) :
    Calls Tryd.prog 70 #[.slice (some a) n c] w fun e w' => (∃ A' c', e = .returned (.slice A' n c') ∧ Own w' w.heap.size 5 1 A' n c' (u8s l)) ∧ Below w.heap.size w w' := by
  subst hn
  refine (bytes_Clone_at a l.length c (l.map fun x : Nat => (x : Int)) w (by simp) hs ?_).mono ?_
  · intro i hi
    obtain ⟨b, off, e, _, hc⟩ := hb (by omega)
    injection e with e
    subst e
    rw [Addr.add_lit, hc i hi]
    simp [List.getD, List.getElem?_eq_getElem hi]
  · rintro e w' ⟨v', rfl, hown, _, hbel⟩
    obtain ⟨A', c', rfl⟩ := own_form hown
    have e1 : (l.map fun x : Nat => (x : Int)).map (Value.int .u8) = u8s l := by simp [u8s]
    rw [e1] at hown
    exact ⟨⟨A', c', rfl, hown⟩, hbel⟩
theorem buildD (A : Option Addr) (n c : Nat) (w : World) : (Instr.build 100 #[(0, .slice A n c)]).run Tryd.prog w = .ok (.agg #[.slice A n c, .int .i64 0, .pointer none]) w := run_build w _ _ _ (by kernel_rfl)
def OpenPost (w : World) (l : List Nat) (e : Ending) (w' : World) : Prop := (∃ g A c, e = .returned (.pointer (some ⟨g, 0, none⟩)) ∧ w.heap.size ≤ g ∧ DecS w' g A c l (some 0) ∧ (∀ j, blockOf A = some j → w.heap.size ≤ j)) ∧ Below w.heap.size w w'
theorem open_any (w : World) (a : Addr) (l : List Nat) (n c : Nat) (hn : l.length = n) (hb : Byt w w.heap.size (some a) l) (hs : n ≤ 140737488355328) (h256 : ∀ x ∈ l, x < 256) :
    Calls Tryd.prog 47 #[.slice (some a) n c] w (OpenPost w l) := by
  have hbd := buildD
  have hcl := Lib.hid (cloneB_any hb n c hn hs)
  have hn' := Lib.hid hn
  have h256' := Lib.hid h256
  have hs' := Lib.hid hs
  clear hb hn h256 hs
  go_enter Tryd.func47, Tryd.ntmps47
  go_wp2_with fail
  refine hcl.out.mono ?_
  rintro e w2 ⟨⟨A2, c2, rfl, o2⟩, b2⟩
  have o2' := Lib.hid o2
  have b2' := Lib.hid b2
  clear o2 b2 hcl
  go_wp2_with fail
  go_ret
  have hba : Below w2.heap.size w2 (w2.alloc (.cells #[.slice A2 n c2, .int .i64 0, .pointer none] 100)) := (Below.refl _ _).alloc (Nat.le_refl _) _
  have hlt := o2'.out.lt
  have hgs := b2'.out.size
  refine ⟨⟨w2.heap.size, A2, c2, rfl, hgs, ⟨?_, ?_, ?_, Nat.zero_le _, ?_, h256'.out, ?_⟩, fun j hj => (hlt j hj).1⟩, b2'.out.trans (hba.mono hgs)⟩
  · rw [hn'.out]
    exact heap_alloc_new w2 _
  · exact (o2'.out.byt.below hba).mono hba.size
  · exact fun e => by have := (hlt _ e).2; omega
  · rw [hn'.out]
    exact ⟨o2'.out.le.1, hs'.out⟩
  · intro j hj
    have := (hlt j hj).2
    simp
    omega
theorem open_nil (w : World) :
    Calls Tryd.prog 47 #[.slice none 0 0] w (OpenPost w []) := by
  have hbd := buildD
  go_enter Tryd.func47, Tryd.ntmps47
  go_wp2_with fail
  refine (bytes_Clone_nil 0 0 _).mono ?_
  rintro e w2 ⟨rfl, rfl⟩
  go_wp2_with fail
  go_ret
  refine ⟨⟨w2.heap.size, none, 0, rfl, Nat.le_refl _, ⟨heap_alloc_new w2 _, fun h => absurd h (by simp), by simp [blockOf], Nat.zero_le _, by simp, by simp, by simp [blockOf]⟩, by simp [blockOf]⟩, (Below.refl _ _).alloc (Nat.le_refl _) _⟩

/-- End: nil, or not. -/
def EndPost (w : World) (l : List Nat) (s : DSt) (e : Ending) (w' : World) : Prop :=
  (if s = some l.length then e = .returned .nilIface else ∃ t v, e = .returned (.iface t v)) ∧ ∃ n, w' = w.drewN n
theorem endd_none {w : World} {g c : Nat} {A : Option Addr} {l : List Nat} (h : DecS w g A c l none) :
    Calls Tryd.prog 50 #[.pointer (some ⟨g, 0, none⟩)] w fun e w' => (∃ t v, e = .returned (.iface t v)) ∧ w' = w := by
  obtain ⟨k, gf, x, y, h1, h2, _⟩ := h
  have c2 := h1.c2
  have hq := dptr_eqn ⟨g, 0, none⟩
  have hn := fptr_nes ⟨gf, 0, none⟩
  have hi2 : (Tryd.prog.info? 114).map (·.size) = some 2 := by kernel_rfl
  have hi2' := Lib.hid hi2
  have h2' := Lib.hid h2
  clear h1 h2 hi2
  go_enter Tryd.func50, Tryd.ntmps50
  go_wp2_with (first
    | (refine wpList_load_row rfl 114 _ rfl gf rfl 114 _ (0, 0) _ h2'.out Tryd.underlying114 rfl hi2'.out ?_))
  go_ret
  exact ⟨⟨_, _, rfl⟩, rfl⟩
def EndI (k L : Nat) (e : Ending) : Prop := if k = L then e = .returned .nilIface else ∃ t v, e = .returned (.iface t v)
theorem endd_some {w : World} {g c k : Nat} {A : Option Addr} {l : List Nat} (h : DecAt w g A c l k none) :
    Calls Tryd.prog 50 #[.pointer (some ⟨g, 0, none⟩)] w fun e w' => EndI k l.length e ∧ ∃ n, w' = w.drewN n := by
  obtain ⟨L, hL⟩ : ∃ n, Hid (∀ _ : Unit, l.length = n) := ⟨_, Lib.hid fun _ => rfl⟩
  have c0 := h.c0
  have c1 := h.c1
  have c2 := h.c2
  have hle := h.le
  have hcap := h.cap
  rw [hL.out ()] at c0 hle hcap ⊢
  have hq := dptr_eqn ⟨g, 0, none⟩
  have hn := fptr_nen
  clear h
  by_cases hk : k = L
  · subst hk
    have hd : decide ((k : Int) < (k : Int)) = false := by simp
    go_enter Tryd.func50, Tryd.ntmps50
    go_wp2_with fail
    go_quiet (fail)
    go_wp2_with fail
    go_ret
    exact ⟨by unfold EndI; rw [if_pos rfl]; rfl, _, rfl⟩
  · have hk' := Lib.hid hk
    have hlt : k < L := by omega
    have hlt2 : (k : Int) < (L : Int) := by omega
    clear hk
    go_enter Tryd.func50, Tryd.ntmps50
    go_wp2_with fail
    go_quiet (fail)
    go_wp2_with fail
    go_ret
    exact ⟨by unfold EndI; rw [if_neg hk'.out]; exact ⟨_, _, rfl⟩, _, rfl⟩
theorem endd_any {w : World} {g c : Nat} {A : Option Addr} {l : List Nat} {s : DSt} (h : DecS w g A c l s) : Calls Tryd.prog 50 #[.pointer (some ⟨g, 0, none⟩)] w (EndPost w l s) := by
  unfold EndPost
  cases s with
  | none =>
    refine (endd_none h).mono ?_
    rintro e w' ⟨he, rfl⟩
    rw [if_neg (by simp)]
    exact ⟨he, 0, rfl⟩
  | some k =>
    refine (endd_some h).mono ?_
    rintro e w' ⟨he, hn⟩
    refine ⟨?_, hn⟩
    unfold EndI at he
    by_cases hk : k = l.length
    · rw [if_pos hk] at he
      rw [if_pos (by rw [hk])]
      exact he
    · rw [if_neg hk] at he
      rw [if_neg (fun e => hk (by simpa using e))]
      exact he
end Go.Proofs.YtkjndgapejbgcaaDoor

namespace Go.Proofs.YtkjndgapejbgcaaDoor
open Go.RowKit
set_option linter.unusedSimpArgs false
set_option linter.unusedVariables false

/-- Another block written over, or grown. -/
theorem DecS.grown {w w' : World} {g c : Nat} {A : Option Addr} {l : List Nat} {s : DSt} (h : DecS w g A c l s) {row : Option Nat} (hg : w.grownBy w' row)
    (hr : ∀ N, row = some N → (∃ cs t fr, w.heap[N]? = some (.cells cs t fr) ∧ t ≠ 100 ∧ t ≠ 114) ∧ blockOf A ≠ some N) : DecS w' g A c l s := by
  have key : ∀ {k : Nat} {f : Option Addr}, DecAt w g A c l k f → DecAt w' g A c l k f := fun {k f} h => by
    have hne : some g ≠ row := fun e => by
      obtain ⟨⟨cs, t, fr, h1, h2, _⟩, _⟩ := hr g e.symm
      have := h.blk.symm.trans h1
      simp only [Option.some.injEq, Obj.cells.injEq] at this
      exact h2 this.2.1.symm
    refine ⟨(hg.block g h.gl hne).trans h.blk, fun hn => ?_, h.off, h.le, h.cap, h.lt, fun j hj => Nat.lt_of_lt_of_le (h.ab j hj) hg.size⟩
    obtain ⟨b, off, e, hb, hc⟩ := h.byt hn
    have hb2 : some b ≠ row := fun e2 => (hr b e2.symm).2 (by rw [e]; rfl)
    exact ⟨b, off, e, Nat.lt_of_lt_of_le hb hg.size, fun j hj => (World.cell?_of_block (hg.block b hb hb2)).trans (hc j hj)⟩
  cases s with
  | some k => exact key h
  | none =>
    obtain ⟨k, gf, x, y, h1, h2, h3⟩ := h
    have hne : some gf ≠ row := fun e => by
      obtain ⟨⟨cs, t, fr, h4, _, h5⟩, _⟩ := hr gf e.symm
      have := h2.symm.trans h4
      simp only [Option.some.injEq, Obj.cells.injEq] at this
      exact h5 this.2.1.symm
    exact ⟨k, gf, x, y, key h1, (hg.block gf (lt_of_block h2) hne).trans h2, h3⟩
theorem grown_setRow (w : World) (N : Nat) (xs : Array Value) : w.grownBy (w.setRow N xs) (some N) := ⟨rfl, rfl, rfl, by simp, fun j _ hj => setRow_other w N j _ (fun e => hj (by rw [e]))⟩
theorem grown_setCells (N : Nat) : ∀ (vs : List Value) (k : Nat) (w : World), w.grownBy (w.setCells N k vs) (some N)
  | [], _, w => World.grownBy.refl w _
  | v :: vs, k, w => (grown_set w N k v).trans (grown_setCells N vs (k + 1) _)
/-- Of what was there before, only block g has changed. -/
theorem grown_new {w w2 w3 : World} {g N : Nat} (h : w.grownBy w2 (some g)) (hN : w.heap.size ≤ N) (h3 : w2.grownBy w3 (some N)) : w.grownBy w3 (some g) :=
  ⟨h3.os.trans h.os, h3.tape.trans h.tape, h3.output.trans h.output, Nat.le_trans h.size h3.size, fun k hk hne => (h3.block k (Nat.lt_of_lt_of_le hk h.size) (fun e => by injection e with e; omega)).trans (h.block k hk hne)⟩
/-- What stands while a result is made in a block of its own. -/
structure ResS (w w2 : World) (g : Nat) (A : Option Addr) (c : Nat) (l : List Nat) (s : DSt) (cs : List Value) (t : TypeId) : Prop where
  dec : DecS w2 g A c l s
  gr : w.grownBy w2 (some g)
  blk : w2.heap[w.heap.size]? = some (.cells cs.toArray t (0, 0))
  gl : g < w.heap.size
  ab : ∀ j, blockOf A = some j → j < w.heap.size
  t1 : t ≠ 100
  t2 : t ≠ 114
section
variable {w w2 w3 : World} {g c : Nat} {A : Option Addr} {l : List Nat} {s s' : DSt} {cs cs' : List Value} {t : TypeId}
theorem ResS.start (h : DecS w g A c l s) (t1 : t ≠ 100) (t2 : t ≠ 114) : ResS w (w.alloc (.cells cs.toArray t)) g A c l s cs t :=
  ⟨h.keep ((Below.refl _ _).alloc (Nat.le_refl _) _), grown_below' ((Below.refl _ _).alloc (Nat.le_refl _) _), heap_alloc_new w _, h.gl, h.ab, t1, t2⟩
theorem ResS.call (h : ResS w w2 g A c l s cs t) (hd : DecS w3 g A c l s') (hg : w2.grownBy w3 (some g)) : ResS w w3 g A c l s' cs t :=
  ⟨hd, h.gr.trans hg, (hg.block _ (lt_of_block h.blk) (fun e => by have := h.gl; injection e with e; omega)).trans h.blk, h.gl, h.ab, h.t1, h.t2⟩
theorem ResS.set (h : ResS w w2 g A c l s cs t) (hg : w2.grownBy w3 (some w.heap.size)) (hb : w3.heap[w.heap.size]? = some (.cells cs'.toArray t (0, 0))) : ResS w w3 g A c l s cs' t :=
  ⟨h.dec.grown hg (fun N hN => by injection hN with hN; subst hN; exact ⟨⟨_, _, _, h.blk, h.t1, h.t2⟩, fun e => by have := h.ab _ e; omega⟩), grown_new h.gr (Nat.le_refl _) hg, hb, h.gl, h.ab, h.t1, h.t2⟩
end

theorem buildPartL (a0 a1 a2 a3 a4 a5 a6 a7 a8 a9 a10 a11 a12 a13 a14 a15 a16 a17 a18 a19 a20 a21 a22 a23 a24 a25 a26 a27 a28 a29 a30 a31 : Nat) (z : Nat) : Tryd.prog.built 47 [(0, .agg (u8s [a0, a1, a2, a3, a4, a5, a6, a7, a8, a9, a10, a11, a12, a13, a14, a15, a16, a17, a18, a19, a20, a21, a22, a23, a24, a25, a26, a27, a28, a29, a30, a31]).toArray), (1, .int .u64 (z : Int))] = some (u8s [a0, a1, a2, a3, a4, a5, a6, a7, a8, a9, a10, a11, a12, a13, a14, a15, a16, a17, a18, a19, a20, a21, a22, a23, a24, a25, a26, a27, a28, a29, a30, a31] ++ [Value.int .u64 (z : Int)]).toArray := by kernel_rfl
theorem buildPart (x : Key32) (z : Nat) (w : World) : (Instr.build 47 #[(0, .agg (encK x).toArray), (1, .int .u64 (z : Int))]).run Tryd.prog w = .ok (.agg (encP (x, z)).toArray) w := by
  refine run_build w _ _ _ ?_
  obtain ⟨l, hl⟩ := x
  match l, hl with
  | [a0, a1, a2, a3, a4, a5, a6, a7, a8, a9, a10, a11, a12, a13, a14, a15, a16, a17, a18, a19, a20, a21, a22, a23, a24, a25, a26, a27, a28, a29, a30, a31], _ => exact buildPartL a0 a1 a2 a3 a4 a5 a6 a7 a8 a9 a10 a11 a12 a13 a14 a15 a16 a17 a18 a19 a20 a21 a22 a23 a24 a25 a26 a27 a28 a29 a30 a31 z

/-- What takes one off. -/
def loopM {α : Type} (one : DSt → α × DSt) : Nat → DSt → List α × DSt
  | 0, s => ([], s)
  | _ + 1, none => ([], none)
  | n + 1, some k => ((one (some k)).1 :: (loopM one n (one (some k)).2).1, (loopM one n (one (some k)).2).2)
theorem loopM_none {α : Type} (one : DSt → α × DSt) (n : Nat) : loopM one n none = ([], none) := by cases n <;> rfl
def eachM {α : Type} (one : DSt → α × DSt) (l : List Nat) (most : Nat) (s : DSt) : List α × DSt :=
  (if (loopM one (varM l most s).1 (varM l most s).2).2 = none then [] else (loopM one (varM l most s).1 (varM l most s).2).1, (loopM one (varM l most s).1 (varM l most s).2).2)
def partM (l : List Nat) (s : DSt) : PartT × DSt := (((keyM l s).1, (varM l 9223372036854775807 (keyM l s).2).1), (varM l 9223372036854775807 (keyM l s).2).2)
def itemM (l : List Nat) (s : DSt) : ItemT × DSt :=
  let t := textM l 64 s
  let m := fixM l 1 t.2
  let v := varM l 18446744073709551615 m.2
  let k := keyM l v.2
  ((strB t.1, m.1, v.1, k.1), k.2)
def OnePost {α : Type} (enc : α → List Value) (w : World) (g : Nat) (A : Option Addr) (c : Nat) (l : List Nat) (r : α × DSt) (e : Ending) (w' : World) : Prop :=
  e = .returned (.agg (enc r.1).toArray) ∧ DecS w' g A c l r.2 ∧ w.grownBy w' (some g)

set_option maxRecDepth 20000 in
set_option maxHeartbeats 2000000 in
theorem partD_any {w : World} {g c : Nat} {A : Option Addr} {l : List Nat} {s : DSt} (h : DecS w g A c l s) :
    Calls Tryd.prog 81 #[.pointer (some ⟨g, 0, none⟩)] w (OnePost encP w g A c l (partM l s)) := by
  have hz := zeroP
  have hi33 : (Tryd.prog.info? 47).map (·.size) = some 33 := by kernel_rfl
  have hi33' := Lib.hid hi33
  have h33' := Lib.hid (fun x : PartT => show (encP x).toArray.size = 33 by simp [encP_length])
  have hone' := Lib.hid (fun x : PartT => show (encP x).toArray.all (·.oneCell') = true from all_oneCell_toArray (encP_one x))
  have hs0 : Hid (ResS w (w.alloc (.cells (encP (zK, 0)).toArray 47)) g A c l s (encP (zK, 0)) 47) := Lib.hid (ResS.start h (by decide) (by decide))
  obtain ⟨RR, hRR⟩ : ∃ R, Hid (∀ _ : Unit, partM l s = R) := ⟨_, Lib.hid fun _ => rfl⟩
  rw [hRR.out ()]
  obtain ⟨x, s1, hk⟩ : ∃ x s1, Hid (keyM l s = (x, s1)) := ⟨_, _, Lib.hid rfl⟩
  obtain ⟨z, s2, hv⟩ : ∃ z s2, Hid (varM l 9223372036854775807 s1 = (z, s2)) := ⟨_, _, Lib.hid rfl⟩
  have hfin : Hid (partM l s = ((x, z), s2)) := Lib.hid (by unfold partM; rw [hk.out]; simp only; rw [hv.out])
  have hbp := Lib.hid (buildPart x z)
  have hkc := Lib.hid (keyd_any hs0.out.dec)
  rw [hk.out] at hkc
  clear h hi33
  go_enter Tryd.func81, Tryd.ntmps81
  go_wp2_with fail
  refine hkc.out.mono ?_
  rintro e w2 ⟨rfl, d2, g2⟩
  have hs2 := Lib.hid (hs0.out.call d2 g2)
  have hvc := vard_any d2 9223372036854775807 (by decide)
  simp only [hv.out] at hvc
  have hvc' := Lib.hid hvc
  clear d2 g2 hkc hvc
  go_wp2_with fail
  refine hvc'.out.mono ?_
  rintro e w3 ⟨rfl, d3, g3⟩
  have hs3 := Lib.hid (hs2.out.call d3 g3)
  clear d3 g3 hvc'
  go_wp2_with (first
    | (refine wpList_built rfl 47 _ #[(0, .agg (encK x).toArray), (1, .int .u64 (z : Int))] rfl (by rw [List.map_toArray]; rfl) _ (hbp.out _) ?_)
    | (refine wpList_store_row rfl 47 _ _ rfl w.heap.size (encP (x, z)).toArray rfl rfl 47 _ hs3.out.blk (by rw [h33'.out]; exact hi33'.out) (by rw [h33'.out, h33'.out]) (hone'.out _) ?_))
  have hres := setRow_heap w3 w.heap.size _ (encP (x, z)).toArray 47 _ hs3.out.blk
  have hs4 := hs3.out.set (grown_setRow w3 _ _) hres
  refine bodyPost_ret (results_cell_row rfl _ _ w.heap.size 47 _ (0, 0) _ rfl hres Tryd.underlying47 rfl (by rw [h33'.out]; exact hi33'.out)) rfl ?_
  rw [← hRR.out (), hfin.out]
  exact ⟨rfl, hs4.dec, hs4.gr⟩
end Go.Proofs.YtkjndgapejbgcaaDoor

/- A decoder's Take. (Printed by tools/gentake.py.) -/
import Derived.Test.YtlghgfnkckaebaaWDecN
import Derived.BigRegion
namespace Go.Proofs.Ytlghgfnkckaebaa
open Go.RowKit
set_option linter.unusedSimpArgs false
set_option linter.unusedVariables false

theorem two8 (i : Nat) : 2 ^ (8 * i) = 256 ^ i := by rw [Nat.pow_mul]
theorem le_or {u y i N : Nat} (hu : u < 256 ^ i) (hy : y * 256 ^ i < 18446744073709551616) (hN : u + 256 ^ i * y = N) (hu64 : u < 18446744073709551616) : bits .or .u64 (u : Int) (IntKind.u64.wrap ((y : Int) * 2 ^ (8 * i))) = (N : Int) := by
  have e : (y : Int) * 2 ^ (8 * i) = ((y * 256 ^ i : Nat) : Int) := by rw [← two8]; push_cast; rfl
  have e2 : IntKind.u64.wrap (((y * 256 ^ i : Nat) : Int)) = ((y * 256 ^ i : Nat) : Int) := by rw [IntKind.wrap_u64]; omega
  rw [e, e2, u64_or_nat _ _ hu64 hy]
  have h := Nat.two_pow_add_eq_or_of_lt (i := 8 * i) (b := u) (by rw [two8]; exact hu) y
  rw [two8, Nat.or_comm, Nat.mul_comm] at h
  rw [← h]
  rw [Nat.mul_comm] at hN
  omega
theorem leN_take {x : List Nat} {i y : Nat} (h : x[i]? = some y) : leN (x.take (i + 1)) = leN (x.take i) + 256 ^ i * y := by
  obtain ⟨hlt, hy⟩ := List.getElem?_eq_some_iff.1 h
  rw [List.take_succ_eq_append_getElem hlt, leN_append, hy, List.length_take, Nat.min_eq_left (by omega)]
  simp [leN]

def Takeuint8Post (w : World) (g : Nat) (A : Option Addr) (c : Nat) (l : List Nat) (R : Nat × DSt) (e : Ending) (w' : World) : Prop :=
  e = .returned (.int .u8 ((R.1 : Int))) ∧ DecS w' g A c l R.2 ∧ w.grownBy w' (some g)
set_option maxRecDepth 20000 in
set_option maxHeartbeats 4000000 in
theorem takeuint8_any {w : World} {g c : Nat} {A : Option Addr} {l : List Nat} {s : DSt} (h : DecS w g A c l s) :
    Calls Try.prog 41 #[.pointer (some ⟨g, 0, none⟩)] w (Takeuint8Post w g A c l (fixM l 1 s)) := by
  have hov := Lib.hid (over_any h)
  have hlt := Lib.hid h.lt
  obtain ⟨RR, hRR⟩ : ∃ R, Hid (∀ _ : Unit, fixM l 1 s = R) := ⟨_, Lib.hid fun _ => rfl⟩
  rw [hRR.out ()]
  cases s with
  | none =>
    have h' := Lib.hid h
    clear h
    go_enter Try.func41, Try.ntmps41
    go_wp2_with (refine hov.out.mono ?_; rintro e w' ⟨rfl, rfl⟩)
    go_ret
    rw [← hRR.out ()]
    exact ⟨rfl, h'.out, grown_drewN w 0 _⟩
  | some k =>
    have c1 := DecAt.c1 h
    have h' := Lib.hid h
    by_cases hn : 1 ≤ l.length - k
    · obtain ⟨x, hx⟩ : ∃ x, Hid (∀ _ : Unit, (l.drop k).take 1 = x) := ⟨_, Lib.hid fun _ => rfl⟩
      have hxl : Hid (x.length = 1) := Lib.hid (by rw [← hx.out (), List.length_take, List.length_drop]; omega)
      have hr : Hid (fixM l 1 (some k) = (leN x, some (k + 1))) := Lib.hid (by simp [fixM, rawM, hn, hx.out ()])
      have hx256 : Hid (∀ y ∈ x, y < 256) := Lib.hid fun y hy => hlt.out y (by rw [← hx.out ()] at hy; exact List.mem_of_mem_drop (List.mem_of_mem_take hy))
      have hnx : Hid (∀ (n : Nat) (z : Int), Calls Try.prog 70 #[.pointer (some ⟨g, 0, none⟩), .int .i64 1, .int .i64 z] (w.drewN n) fun e w' => (∃ A' c', e = .returned (.slice A' 1 c') ∧ Byt w' w'.heap.size A' x) ∧ DecAt w' g A c l (k + 1) none ∧ (w.drewN n).grownBy w' (some g)) := Lib.hid fun n z => (next_ok (h'.out.drewN n) 1 hn z).mono fun e w' ⟨⟨A', c', he, hb, _⟩, hd, hg⟩ => ⟨⟨A', c', he, by rw [← hx.out ()]; exact hb⟩, hd, hg⟩
      clear h hn
      go_enter Try.func41, Try.ntmps41
      go_wp2_with (refine hov.out.mono ?_; rintro e w' ⟨rfl, rfl⟩)
      go_region_with (first
        | (go_at_call 71; refine (widthuint8_any _).mono ?_; rintro e w' ⟨rfl, rfl⟩)
        | (go_at_call 70; refine (hnx.out 1 _).mono ?_; rintro e w2 ⟨⟨A2, c2, rfl, hb2⟩, h2, g2⟩))
      all_goals
        have h2' := Lib.hid h2
        have g2' := Lib.hid ((grown_drewN w _ _).trans g2)
        obtain ⟨b, off, rfl, _, hcel⟩ := hb2 (by rw [hxl.out]; decide)
        have hcel' := Lib.hid hcel
        clear h2 g2 hb2 hcel c1
        go_wp2_with fail
        go_loop [4, 18] (fun uv iv => ∃ i u : Nat, i ≤ 1 ∧ iv = .int .i64 (i : Int) ∧ uv = .int .u64 (u : Int) ∧ Hid (leN (x.take i) = u)) (fun _ iv => 1 - (intOf iv).toNat)
        case atStart => exact ⟨0, 0, by omega, rfl, rfl, Lib.hid (by simp [leN])⟩
        case round =>
          obtain ⟨i, u, hi, rfl, rfl, hu⟩ := hrel
          have hub : Hid (u < 256 ^ i) := Lib.hid (by
            rw [← hu.out]
            have h1 := leN_lt (x.take i) fun z hz => hx256.out z (List.mem_of_mem_take hz)
            have h2 : (x.take i).length = i := by rw [List.length_take, hxl.out]; omega
            rwa [h2] at h1)
          have hb8 : Hid (256 ^ i ≤ 256 ^ 1) := Lib.hid (Nat.pow_le_pow_right (by decide) hi)
          by_cases hlt2 : i < 1
          · have hix : i < x.length := by rw [hxl.out]; exact hlt2
            obtain ⟨y, hy⟩ : ∃ y, Hid (x[i]? = some y) := ⟨x[i], Lib.hid (List.getElem?_eq_getElem hix)⟩
            have hy256 : y < 256 := hx256.out y (List.mem_of_getElem? hy.out)
            have hc := hcel'.out i hix
            rw [hy.out, Option.getD_some] at hc
            obtain ⟨N, hN⟩ : ∃ N, Hid (u + 256 ^ i * y = N) := ⟨_, Lib.hid rfl⟩
            have hor : bits .or .u64 (u : Int) (IntKind.u64.wrap ((y : Int) * 2 ^ (8 * i))) = (N : Int) := le_or hub.out (by
              have h2 : 256 ^ i ≤ 256 ^ 7 := Nat.pow_le_pow_right (by decide) (by omega)
              have h3 : (256 : Nat) ^ 7 = 72057594037927936 := by decide
              have h4 : y * 256 ^ i ≤ 255 * 256 ^ i := Nat.mul_le_mul_right _ (by omega)
              omega) hN.out (by
              have h1 := hub.out
              have h2 : 256 ^ i ≤ 256 ^ 7 := Nat.pow_le_pow_right (by decide) (by omega)
              have h3 : (256 : Nat) ^ 7 = 72057594037927936 := by decide
              omega)
            have hnx2 : Hid (leN (x.take (i + 1)) = N) := Lib.hid (by rw [leN_take hy.out, hu.out, hN.out])
            clear hix
            go_wp2_with fail
            go_round
            case rel => exact ⟨i + 1, N, by omega, by go_num, rfl, hnx2⟩
            case measure => simp [intOf]; omega
          · have hfin : Hid (leN x = u) := Lib.hid (by
              have := hu.out
              rwa [List.take_of_length_le (by rw [hxl.out]; omega)] at this)
            have hu64 : u < 256 ^ 1 := Nat.lt_of_lt_of_le hub.out hb8.out
            have hm : (u : Int) % 256 = (u : Int) := by omega
            clear hu64
            go_wp2_with fail
            go_ret
            rw [← hRR.out (), hr.out]
            exact ⟨by rw [hfin.out]; rfl, h2'.out, g2'.out⟩
    · have hr : Hid (fixM l 1 (some k) = (0, none)) := Lib.hid (by simp [fixM, rawM, hn, leN])
      have hnx : Hid (∀ (n : Nat) (z : Int), Calls Try.prog 70 #[.pointer (some ⟨g, 0, none⟩), .int .i64 1, .int .i64 z] (w.drewN n) fun e w' => e = .returned (.slice none 0 0) ∧ DecS w' g A c l none ∧ (w.drewN n).grownBy w' (some g)) := Lib.hid fun n z => next_no (h'.out.drewN n) 1 (by omega) (by decide) z
      clear h hn
      go_enter Try.func41, Try.ntmps41
      go_wp2_with (refine hov.out.mono ?_; rintro e w' ⟨rfl, rfl⟩)
      go_region_with (first
        | (go_at_call 71; refine (widthuint8_any _).mono ?_; rintro e w' ⟨rfl, rfl⟩)
        | (go_at_call 70; refine (hnx.out 1 _).mono ?_; rintro e w2 ⟨rfl, h2, g2⟩))
      all_goals
        have h2' := Lib.hid h2
        have g2' := Lib.hid ((grown_drewN w _ _).trans g2)
        clear h2 g2 c1
        go_wp2_with fail
        go_loop [4, 18] (fun uv iv => uv = .int .u64 0 ∧ iv = .int .i64 0) (fun _ _ => 0)
        case atStart => exact ⟨rfl, rfl⟩
        case round =>
          obtain ⟨rfl, rfl⟩ := hrel
          go_wp2_with fail
          go_ret
          rw [← hRR.out (), hr.out]
          exact ⟨rfl, h2'.out, g2'.out⟩

def Takeuint16Post (w : World) (g : Nat) (A : Option Addr) (c : Nat) (l : List Nat) (R : Nat × DSt) (e : Ending) (w' : World) : Prop :=
  e = .returned (.int .u16 ((R.1 : Int))) ∧ DecS w' g A c l R.2 ∧ w.grownBy w' (some g)
set_option maxRecDepth 20000 in
set_option maxHeartbeats 4000000 in
theorem takeuint16_any {w : World} {g c : Nat} {A : Option Addr} {l : List Nat} {s : DSt} (h : DecS w g A c l s) :
    Calls Try.prog 42 #[.pointer (some ⟨g, 0, none⟩)] w (Takeuint16Post w g A c l (fixM l 2 s)) := by
  have hov := Lib.hid (over_any h)
  have hlt := Lib.hid h.lt
  obtain ⟨RR, hRR⟩ : ∃ R, Hid (∀ _ : Unit, fixM l 2 s = R) := ⟨_, Lib.hid fun _ => rfl⟩
  rw [hRR.out ()]
  cases s with
  | none =>
    have h' := Lib.hid h
    clear h
    go_enter Try.func42, Try.ntmps42
    go_wp2_with (refine hov.out.mono ?_; rintro e w' ⟨rfl, rfl⟩)
    go_ret
    rw [← hRR.out ()]
    exact ⟨rfl, h'.out, grown_drewN w 0 _⟩
  | some k =>
    have c1 := DecAt.c1 h
    have h' := Lib.hid h
    by_cases hn : 2 ≤ l.length - k
    · obtain ⟨x, hx⟩ : ∃ x, Hid (∀ _ : Unit, (l.drop k).take 2 = x) := ⟨_, Lib.hid fun _ => rfl⟩
      have hxl : Hid (x.length = 2) := Lib.hid (by rw [← hx.out (), List.length_take, List.length_drop]; omega)
      have hr : Hid (fixM l 2 (some k) = (leN x, some (k + 2))) := Lib.hid (by simp [fixM, rawM, hn, hx.out ()])
      have hx256 : Hid (∀ y ∈ x, y < 256) := Lib.hid fun y hy => hlt.out y (by rw [← hx.out ()] at hy; exact List.mem_of_mem_drop (List.mem_of_mem_take hy))
      have hnx : Hid (∀ (n : Nat) (z : Int), Calls Try.prog 70 #[.pointer (some ⟨g, 0, none⟩), .int .i64 2, .int .i64 z] (w.drewN n) fun e w' => (∃ A' c', e = .returned (.slice A' 2 c') ∧ Byt w' w'.heap.size A' x) ∧ DecAt w' g A c l (k + 2) none ∧ (w.drewN n).grownBy w' (some g)) := Lib.hid fun n z => (next_ok (h'.out.drewN n) 2 hn z).mono fun e w' ⟨⟨A', c', he, hb, _⟩, hd, hg⟩ => ⟨⟨A', c', he, by rw [← hx.out ()]; exact hb⟩, hd, hg⟩
      clear h hn
      go_enter Try.func42, Try.ntmps42
      go_wp2_with (refine hov.out.mono ?_; rintro e w' ⟨rfl, rfl⟩)
      go_region_with (first
        | (go_at_call 72; refine (widthuint16_any _).mono ?_; rintro e w' ⟨rfl, rfl⟩)
        | (go_at_call 70; refine (hnx.out 1 _).mono ?_; rintro e w2 ⟨⟨A2, c2, rfl, hb2⟩, h2, g2⟩))
      all_goals
        have h2' := Lib.hid h2
        have g2' := Lib.hid ((grown_drewN w _ _).trans g2)
        obtain ⟨b, off, rfl, _, hcel⟩ := hb2 (by rw [hxl.out]; decide)
        have hcel' := Lib.hid hcel
        clear h2 g2 hb2 hcel c1
        go_wp2_with fail
        go_loop [4, 18] (fun uv iv => ∃ i u : Nat, i ≤ 2 ∧ iv = .int .i64 (i : Int) ∧ uv = .int .u64 (u : Int) ∧ Hid (leN (x.take i) = u)) (fun _ iv => 2 - (intOf iv).toNat)
        case atStart => exact ⟨0, 0, by omega, rfl, rfl, Lib.hid (by simp [leN])⟩
        case round =>
          obtain ⟨i, u, hi, rfl, rfl, hu⟩ := hrel
          have hub : Hid (u < 256 ^ i) := Lib.hid (by
            rw [← hu.out]
            have h1 := leN_lt (x.take i) fun z hz => hx256.out z (List.mem_of_mem_take hz)
            have h2 : (x.take i).length = i := by rw [List.length_take, hxl.out]; omega
            rwa [h2] at h1)
          have hb8 : Hid (256 ^ i ≤ 256 ^ 2) := Lib.hid (Nat.pow_le_pow_right (by decide) hi)
          by_cases hlt2 : i < 2
          · have hix : i < x.length := by rw [hxl.out]; exact hlt2
            obtain ⟨y, hy⟩ : ∃ y, Hid (x[i]? = some y) := ⟨x[i], Lib.hid (List.getElem?_eq_getElem hix)⟩
            have hy256 : y < 256 := hx256.out y (List.mem_of_getElem? hy.out)
            have hc := hcel'.out i hix
            rw [hy.out, Option.getD_some] at hc
            obtain ⟨N, hN⟩ : ∃ N, Hid (u + 256 ^ i * y = N) := ⟨_, Lib.hid rfl⟩
            have hor : bits .or .u64 (u : Int) (IntKind.u64.wrap ((y : Int) * 2 ^ (8 * i))) = (N : Int) := le_or hub.out (by
              have h2 : 256 ^ i ≤ 256 ^ 7 := Nat.pow_le_pow_right (by decide) (by omega)
              have h3 : (256 : Nat) ^ 7 = 72057594037927936 := by decide
              have h4 : y * 256 ^ i ≤ 255 * 256 ^ i := Nat.mul_le_mul_right _ (by omega)
              omega) hN.out (by
              have h1 := hub.out
              have h2 : 256 ^ i ≤ 256 ^ 7 := Nat.pow_le_pow_right (by decide) (by omega)
              have h3 : (256 : Nat) ^ 7 = 72057594037927936 := by decide
              omega)
            have hnx2 : Hid (leN (x.take (i + 1)) = N) := Lib.hid (by rw [leN_take hy.out, hu.out, hN.out])
            clear hix
            go_wp2_with fail
            go_round
            case rel => exact ⟨i + 1, N, by omega, by go_num, rfl, hnx2⟩
            case measure => simp [intOf]; omega
          · have hfin : Hid (leN x = u) := Lib.hid (by
              have := hu.out
              rwa [List.take_of_length_le (by rw [hxl.out]; omega)] at this)
            have hu64 : u < 256 ^ 2 := Nat.lt_of_lt_of_le hub.out hb8.out
            have hm : (u : Int) % 65536 = (u : Int) := by omega
            clear hu64
            go_wp2_with fail
            go_ret
            rw [← hRR.out (), hr.out]
            exact ⟨by rw [hfin.out]; rfl, h2'.out, g2'.out⟩
    · have hr : Hid (fixM l 2 (some k) = (0, none)) := Lib.hid (by simp [fixM, rawM, hn, leN])
      have hnx : Hid (∀ (n : Nat) (z : Int), Calls Try.prog 70 #[.pointer (some ⟨g, 0, none⟩), .int .i64 2, .int .i64 z] (w.drewN n) fun e w' => e = .returned (.slice none 0 0) ∧ DecS w' g A c l none ∧ (w.drewN n).grownBy w' (some g)) := Lib.hid fun n z => next_no (h'.out.drewN n) 2 (by omega) (by decide) z
      clear h hn
      go_enter Try.func42, Try.ntmps42
      go_wp2_with (refine hov.out.mono ?_; rintro e w' ⟨rfl, rfl⟩)
      go_region_with (first
        | (go_at_call 72; refine (widthuint16_any _).mono ?_; rintro e w' ⟨rfl, rfl⟩)
        | (go_at_call 70; refine (hnx.out 1 _).mono ?_; rintro e w2 ⟨rfl, h2, g2⟩))
      all_goals
        have h2' := Lib.hid h2
        have g2' := Lib.hid ((grown_drewN w _ _).trans g2)
        clear h2 g2 c1
        go_wp2_with fail
        go_loop [4, 18] (fun uv iv => uv = .int .u64 0 ∧ iv = .int .i64 0) (fun _ _ => 0)
        case atStart => exact ⟨rfl, rfl⟩
        case round =>
          obtain ⟨rfl, rfl⟩ := hrel
          go_wp2_with fail
          go_ret
          rw [← hRR.out (), hr.out]
          exact ⟨rfl, h2'.out, g2'.out⟩

def Takeuint64Post (w : World) (g : Nat) (A : Option Addr) (c : Nat) (l : List Nat) (R : Nat × DSt) (e : Ending) (w' : World) : Prop :=
  e = .returned (.int .u64 ((R.1 : Int))) ∧ DecS w' g A c l R.2 ∧ w.grownBy w' (some g)
set_option maxRecDepth 20000 in
set_option maxHeartbeats 4000000 in
theorem takeuint64_any {w : World} {g c : Nat} {A : Option Addr} {l : List Nat} {s : DSt} (h : DecS w g A c l s) :
    Calls Try.prog 45 #[.pointer (some ⟨g, 0, none⟩)] w (Takeuint64Post w g A c l (fixM l 8 s)) := by
  have hov := Lib.hid (over_any h)
  have hlt := Lib.hid h.lt
  obtain ⟨RR, hRR⟩ : ∃ R, Hid (∀ _ : Unit, fixM l 8 s = R) := ⟨_, Lib.hid fun _ => rfl⟩
  rw [hRR.out ()]
  cases s with
  | none =>
    have h' := Lib.hid h
    clear h
    go_enter Try.func45, Try.ntmps45
    go_wp2_with (refine hov.out.mono ?_; rintro e w' ⟨rfl, rfl⟩)
    go_ret
    rw [← hRR.out ()]
    exact ⟨rfl, h'.out, grown_drewN w 0 _⟩
  | some k =>
    have c1 := DecAt.c1 h
    have h' := Lib.hid h
    by_cases hn : 8 ≤ l.length - k
    · obtain ⟨x, hx⟩ : ∃ x, Hid (∀ _ : Unit, (l.drop k).take 8 = x) := ⟨_, Lib.hid fun _ => rfl⟩
      have hxl : Hid (x.length = 8) := Lib.hid (by rw [← hx.out (), List.length_take, List.length_drop]; omega)
      have hr : Hid (fixM l 8 (some k) = (leN x, some (k + 8))) := Lib.hid (by simp [fixM, rawM, hn, hx.out ()])
      have hx256 : Hid (∀ y ∈ x, y < 256) := Lib.hid fun y hy => hlt.out y (by rw [← hx.out ()] at hy; exact List.mem_of_mem_drop (List.mem_of_mem_take hy))
      have hnx : Hid (∀ (n : Nat) (z : Int), Calls Try.prog 70 #[.pointer (some ⟨g, 0, none⟩), .int .i64 8, .int .i64 z] (w.drewN n) fun e w' => (∃ A' c', e = .returned (.slice A' 8 c') ∧ Byt w' w'.heap.size A' x) ∧ DecAt w' g A c l (k + 8) none ∧ (w.drewN n).grownBy w' (some g)) := Lib.hid fun n z => (next_ok (h'.out.drewN n) 8 hn z).mono fun e w' ⟨⟨A', c', he, hb, _⟩, hd, hg⟩ => ⟨⟨A', c', he, by rw [← hx.out ()]; exact hb⟩, hd, hg⟩
      clear h hn
      go_enter Try.func45, Try.ntmps45
      go_wp2_with (refine hov.out.mono ?_; rintro e w' ⟨rfl, rfl⟩)
      go_region_with (first
        | (go_at_call 73; refine (widthuint64_any _).mono ?_; rintro e w' ⟨rfl, rfl⟩)
        | (go_at_call 70; refine (hnx.out 1 _).mono ?_; rintro e w2 ⟨⟨A2, c2, rfl, hb2⟩, h2, g2⟩))
      all_goals
        have h2' := Lib.hid h2
        have g2' := Lib.hid ((grown_drewN w _ _).trans g2)
        obtain ⟨b, off, rfl, _, hcel⟩ := hb2 (by rw [hxl.out]; decide)
        have hcel' := Lib.hid hcel
        clear h2 g2 hb2 hcel c1
        go_wp2_with fail
        go_loop [4, 18] (fun uv iv => ∃ i u : Nat, i ≤ 8 ∧ iv = .int .i64 (i : Int) ∧ uv = .int .u64 (u : Int) ∧ Hid (leN (x.take i) = u)) (fun _ iv => 8 - (intOf iv).toNat)
        case atStart => exact ⟨0, 0, by omega, rfl, rfl, Lib.hid (by simp [leN])⟩
        case round =>
          obtain ⟨i, u, hi, rfl, rfl, hu⟩ := hrel
          have hub : Hid (u < 256 ^ i) := Lib.hid (by
            rw [← hu.out]
            have h1 := leN_lt (x.take i) fun z hz => hx256.out z (List.mem_of_mem_take hz)
            have h2 : (x.take i).length = i := by rw [List.length_take, hxl.out]; omega
            rwa [h2] at h1)
          have hb8 : Hid (256 ^ i ≤ 256 ^ 8) := Lib.hid (Nat.pow_le_pow_right (by decide) hi)
          by_cases hlt2 : i < 8
          · have hix : i < x.length := by rw [hxl.out]; exact hlt2
            obtain ⟨y, hy⟩ : ∃ y, Hid (x[i]? = some y) := ⟨x[i], Lib.hid (List.getElem?_eq_getElem hix)⟩
            have hy256 : y < 256 := hx256.out y (List.mem_of_getElem? hy.out)
            have hc := hcel'.out i hix
            rw [hy.out, Option.getD_some] at hc
            obtain ⟨N, hN⟩ : ∃ N, Hid (u + 256 ^ i * y = N) := ⟨_, Lib.hid rfl⟩
            have hor : bits .or .u64 (u : Int) (IntKind.u64.wrap ((y : Int) * 2 ^ (8 * i))) = (N : Int) := le_or hub.out (by
              have h2 : 256 ^ i ≤ 256 ^ 7 := Nat.pow_le_pow_right (by decide) (by omega)
              have h3 : (256 : Nat) ^ 7 = 72057594037927936 := by decide
              have h4 : y * 256 ^ i ≤ 255 * 256 ^ i := Nat.mul_le_mul_right _ (by omega)
              omega) hN.out (by
              have h1 := hub.out
              have h2 : 256 ^ i ≤ 256 ^ 7 := Nat.pow_le_pow_right (by decide) (by omega)
              have h3 : (256 : Nat) ^ 7 = 72057594037927936 := by decide
              omega)
            have hnx2 : Hid (leN (x.take (i + 1)) = N) := Lib.hid (by rw [leN_take hy.out, hu.out, hN.out])
            clear hix
            go_wp2_with fail
            go_round
            case rel => exact ⟨i + 1, N, by omega, by go_num, rfl, hnx2⟩
            case measure => simp [intOf]; omega
          · have hfin : Hid (leN x = u) := Lib.hid (by
              have := hu.out
              rwa [List.take_of_length_le (by rw [hxl.out]; omega)] at this)
            have hu64 : u < 256 ^ 8 := Nat.lt_of_lt_of_le hub.out hb8.out
            skip
            clear hu64
            go_wp2_with fail
            go_ret
            rw [← hRR.out (), hr.out]
            exact ⟨by rw [hfin.out]; rfl, h2'.out, g2'.out⟩
    · have hr : Hid (fixM l 8 (some k) = (0, none)) := Lib.hid (by simp [fixM, rawM, hn, leN])
      have hnx : Hid (∀ (n : Nat) (z : Int), Calls Try.prog 70 #[.pointer (some ⟨g, 0, none⟩), .int .i64 8, .int .i64 z] (w.drewN n) fun e w' => e = .returned (.slice none 0 0) ∧ DecS w' g A c l none ∧ (w.drewN n).grownBy w' (some g)) := Lib.hid fun n z => next_no (h'.out.drewN n) 8 (by omega) (by decide) z
      clear h hn
      go_enter Try.func45, Try.ntmps45
      go_wp2_with (refine hov.out.mono ?_; rintro e w' ⟨rfl, rfl⟩)
      go_region_with (first
        | (go_at_call 73; refine (widthuint64_any _).mono ?_; rintro e w' ⟨rfl, rfl⟩)
        | (go_at_call 70; refine (hnx.out 1 _).mono ?_; rintro e w2 ⟨rfl, h2, g2⟩))
      all_goals
        have h2' := Lib.hid h2
        have g2' := Lib.hid ((grown_drewN w _ _).trans g2)
        clear h2 g2 c1
        go_wp2_with fail
        go_loop [4, 18] (fun uv iv => uv = .int .u64 0 ∧ iv = .int .i64 0) (fun _ _ => 0)
        case atStart => exact ⟨rfl, rfl⟩
        case round =>
          obtain ⟨rfl, rfl⟩ := hrel
          go_wp2_with fail
          go_ret
          rw [← hRR.out (), hr.out]
          exact ⟨rfl, h2'.out, g2'.out⟩

end Go.Proofs.Ytlghgfnkckaebaa

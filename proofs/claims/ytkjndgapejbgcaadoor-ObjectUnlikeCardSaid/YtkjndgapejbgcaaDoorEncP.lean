/- An encoder's further methods: Put. -/
import Derived.Test.YtkjndgapejbgcaaDoorEncK
import Derived.Laws.Bits64
namespace Go.Proofs.YtkjndgapejbgcaaDoor
open Go.RowKit
set_option linter.unusedSimpArgs false

/-- A number's lowest n bytes, the lowest first. -/
def fixF : Nat → Nat → List Nat
  | 0, _ => []
  | n + 1, u => u % 256 :: fixF n (u / 256)

set_option maxRecDepth 20000 in
theorem width64_any (w : World) : Calls Tryd.prog 69 #[] w fun e w' => e = .returned (.int .i64 8) ∧ w = w' := by
  go_enter Tryd.func69, Tryd.ntmps69
  go_wp2_with fail
  go_loop [1, 2] (fun i v => (i = .int .i64 0 ∧ v = .int .i64 1) ∨ (i = .int .i64 1 ∧ v = .int .i64 256) ∨ (i = .int .i64 2 ∧ v = .int .i64 65536) ∨ (i = .int .i64 3 ∧ v = .int .i64 16777216) ∨ (i = .int .i64 4 ∧ v = .int .i64 4294967296) ∨ (i = .int .i64 5 ∧ v = .int .i64 1099511627776) ∨ (i = .int .i64 6 ∧ v = .int .i64 281474976710656) ∨ (i = .int .i64 7 ∧ v = .int .i64 72057594037927936) ∨ (i = .int .i64 8 ∧ v = .int .i64 0)) (fun i _ => 9 - (intOf i).toNat)
  case atStart => exact .inl ⟨rfl, rfl⟩
  case round =>
    rcases hrel with ⟨rfl, rfl⟩ | ⟨rfl, rfl⟩ | ⟨rfl, rfl⟩ | ⟨rfl, rfl⟩ | ⟨rfl, rfl⟩ | ⟨rfl, rfl⟩ | ⟨rfl, rfl⟩ | ⟨rfl, rfl⟩ | ⟨rfl, rfl⟩
    · go_wp2_with fail
      go_round
      case rel => exact (.inr (.inl ⟨rfl, rfl⟩))
      case measure => simp [intOf]
    · go_wp2_with fail
      go_round
      case rel => exact (.inr (.inr (.inl ⟨rfl, rfl⟩)))
      case measure => simp [intOf]
    · go_wp2_with fail
      go_round
      case rel => exact (.inr (.inr (.inr (.inl ⟨rfl, rfl⟩))))
      case measure => simp [intOf]
    · go_wp2_with fail
      go_round
      case rel => exact (.inr (.inr (.inr (.inr (.inl ⟨rfl, rfl⟩)))))
      case measure => simp [intOf]
    · go_wp2_with fail
      go_round
      case rel => exact (.inr (.inr (.inr (.inr (.inr (.inl ⟨rfl, rfl⟩))))))
      case measure => simp [intOf]
    · go_wp2_with fail
      go_round
      case rel => exact (.inr (.inr (.inr (.inr (.inr (.inr (.inl ⟨rfl, rfl⟩)))))))
      case measure => simp [intOf]
    · go_wp2_with fail
      go_round
      case rel => exact (.inr (.inr (.inr (.inr (.inr (.inr (.inr (.inl ⟨rfl, rfl⟩))))))))
      case measure => simp [intOf]
    · go_wp2_with fail
      go_round
      case rel => exact (.inr (.inr (.inr (.inr (.inr (.inr (.inr (.inr ⟨rfl, congrArg _ (by unfold wrap64; omega)⟩))))))))
      case measure => simp [intOf]
    · go_wp2_with fail
      go_ret
      exact ⟨rfl, rfl⟩

set_option maxRecDepth 20000 in
set_option maxHeartbeats 1000000 in
theorem put8_any {w : World} {g c : Nat} {A : Option Addr} {l : List Nat} (h : EncAt w g A c l) (v : Nat) (hv : v < 256) (hs : l.length ≤ 70368744177000) :
    Calls Tryd.prog 33 #[.pointer (some ⟨g, 0, none⟩), .int .u8 (v : Int)] w fun e w' => (∃ v, e = .returned v) ∧ ∃ A' c', EncAt w' g A' c' (l ++ fixF 1 v) ∧ EncR g w A w' A' := by
  have h' := Lib.hid h
  obtain ⟨U, hU⟩ : ∃ U, v = U := ⟨_, rfl⟩
  rw [hU]
  rw [hU] at hv
  have hm : (U : Int) % 18446744073709551616 = (U : Int) := by omega
  obtain ⟨V, hV⟩ : ∃ V, Hid (∀ _ : Unit, fixF 1 U = V) := ⟨_, Lib.hid fun _ => rfl⟩
  rw [hV.out ()]
  clear h
  go_enter Tryd.func33, Tryd.ntmps33
  go_wp2_with fail
  refine (ours_any h'.out).mono ?_
  rintro e w' ⟨⟨v0, rfl⟩, rfl⟩
  go_wp2_with fail
  refine (width8_any w).mono ?_
  rintro e w' ⟨rfl, rfl⟩
  go_wp2_with fail
  go_loopw [4, 12] (fun uv iv wr => ∃ (j u : Nat) (acc : List Nat) (A' : Option Addr) (c' : Nat), j ≤ 1 ∧ iv = .int .i64 (j : Int) ∧ uv = .int .u64 (u : Int) ∧ acc.length = j ∧ Hid (acc ++ fixF (1 - j) u = V) ∧ Hid (EncAt wr g A' c' (l ++ acc)) ∧ Hid (EncR g w A wr A')) (fun _ iv _ => 1 - (intOf iv).toNat)
  case atStart => exact ⟨0, U, [], A, c, by omega, rfl, rfl, rfl, Lib.hid (hV.out ()), Lib.hid (by rw [List.append_nil]; exact h'.out), Lib.hid (EncR.refl g w A)⟩
  case round =>
    obtain ⟨j, u, acc, A1, c1, hj, rfl, rfl, hal, hu, he, hr⟩ := hrel
    by_cases hlt : j < 1
    · obtain ⟨n, hn⟩ : ∃ n, Hid (∀ _ : Unit, (l ++ acc).length = n) := ⟨_, Lib.hid fun _ => rfl⟩
      have hnl : n ≤ 70368744177010 := by rw [← hn.out (), List.length_append]; omega
      have c0 := he.out.c0
      have fz := he.out.fz 0
      rw [hn.out ()] at c0
      have ho : Hid (Own wr (g + 1) 5 1 A1 n c1 (u8s (l ++ acc))) := Lib.hid (by have := he.out.own; rwa [hn.out ()] at this)
      have hgl := Lib.hid (Nat.succ_le_of_lt he.out.lt)
      obtain ⟨y, hy⟩ : ∃ y, Hid (u % 256 = y) := ⟨_, Lib.hid rfl⟩
      have hyz : (u : Int) % 256 = (y : Int) := by rw [← hy.out]; omega
      have hnx : Hid ((acc ++ [y]) ++ fixF (1 - (j + 1)) (u / 256) = V) := Lib.hid (by
        have := hu.out
        rw [show 1 - j = (1 - (j + 1)) + 1 by omega, fixF, hy.out] at this
        rw [List.append_assoc]
        exact this)
      go_wp2_with (first | (at_builtin; refine wpList_app1 elB _ #[_] rfl rfl _ _ rfl rfl ho.out rfl (by intro u hu; simp at hu; subst hu; rfl) (by unfold maxLen; omega) (by omega) hgl.out (n + 1) rfl _ rfl ?_; intro A2 c2 w2 o2 at2 _; have hp := Lib.hid (he.out.one at2 (by rw [hn.out ()]) o2); have hm2 := he.out.mid at2; have m0 := hm2.1; have m1 := hm2.2; rw [hn.out ()] at m0; clear hm2 o2 at2 c0 fz))
      go_roundw
      case rel => exact ⟨j + 1, u / 256, acc ++ [y], A2, c2, by omega, by go_num, by go_num, by simp [hal], hnx, Lib.hid (by rw [← List.append_assoc]; exact hp.out.1), Lib.hid (hr.out.trans hp.out.2)⟩
      case measure => simp [intOf]; omega
    · have hfin : Hid (acc = V) := Lib.hid (by
        have := hu.out
        rw [show 1 - j = 0 by omega, fixF, List.append_nil] at this
        exact this)
      go_wp2_with fail
      go_end0
      exact ⟨⟨_, rfl⟩, A1, c1, by rw [← hfin.out]; exact he.out, hr.out⟩

set_option maxRecDepth 20000 in
set_option maxHeartbeats 1000000 in
theorem put64_any {w : World} {g c : Nat} {A : Option Addr} {l : List Nat} (h : EncAt w g A c l) (v : Int) (hs : l.length ≤ 70368744177000) :
    Calls Tryd.prog 38 #[.pointer (some ⟨g, 0, none⟩), .int .i64 v] w fun e w' => (∃ v, e = .returned v) ∧ ∃ A' c', EncAt w' g A' c' (l ++ fixF 8 (v % 18446744073709551616).toNat) ∧ EncR g w A w' A' := by
  have h' := Lib.hid h
  obtain ⟨U, hU⟩ : ∃ U, (v % 18446744073709551616).toNat = U := ⟨_, rfl⟩
  rw [hU]
  have hm : IntKind.u64.wrap v = (U : Int) := by rw [IntKind.wrap_u64]; omega
  obtain ⟨V, hV⟩ : ∃ V, Hid (∀ _ : Unit, fixF 8 U = V) := ⟨_, Lib.hid fun _ => rfl⟩
  rw [hV.out ()]
  clear h
  go_enter Tryd.func38, Tryd.ntmps38
  go_wp2_with fail
  refine (ours_any h'.out).mono ?_
  rintro e w' ⟨⟨v0, rfl⟩, rfl⟩
  go_wp2_with fail
  refine (width64_any w).mono ?_
  rintro e w' ⟨rfl, rfl⟩
  go_wp2_with fail
  go_loopw [4, 12] (fun uv iv wr => ∃ (j u : Nat) (acc : List Nat) (A' : Option Addr) (c' : Nat), j ≤ 8 ∧ iv = .int .i64 (j : Int) ∧ uv = .int .u64 (u : Int) ∧ acc.length = j ∧ Hid (acc ++ fixF (8 - j) u = V) ∧ Hid (EncAt wr g A' c' (l ++ acc)) ∧ Hid (EncR g w A wr A')) (fun _ iv _ => 8 - (intOf iv).toNat)
  case atStart => exact ⟨0, U, [], A, c, by omega, rfl, rfl, rfl, Lib.hid (hV.out ()), Lib.hid (by rw [List.append_nil]; exact h'.out), Lib.hid (EncR.refl g w A)⟩
  case round =>
    obtain ⟨j, u, acc, A1, c1, hj, rfl, rfl, hal, hu, he, hr⟩ := hrel
    by_cases hlt : j < 8
    · obtain ⟨n, hn⟩ : ∃ n, Hid (∀ _ : Unit, (l ++ acc).length = n) := ⟨_, Lib.hid fun _ => rfl⟩
      have hnl : n ≤ 70368744177010 := by rw [← hn.out (), List.length_append]; omega
      have c0 := he.out.c0
      have fz := he.out.fz 0
      rw [hn.out ()] at c0
      have ho : Hid (Own wr (g + 1) 5 1 A1 n c1 (u8s (l ++ acc))) := Lib.hid (by have := he.out.own; rwa [hn.out ()] at this)
      have hgl := Lib.hid (Nat.succ_le_of_lt he.out.lt)
      obtain ⟨y, hy⟩ : ∃ y, Hid (u % 256 = y) := ⟨_, Lib.hid rfl⟩
      have hyz : (u : Int) % 256 = (y : Int) := by rw [← hy.out]; omega
      have hnx : Hid ((acc ++ [y]) ++ fixF (8 - (j + 1)) (u / 256) = V) := Lib.hid (by
        have := hu.out
        rw [show 8 - j = (8 - (j + 1)) + 1 by omega, fixF, hy.out] at this
        rw [List.append_assoc]
        exact this)
      go_wp2_with (first | (at_builtin; refine wpList_app1 elB _ #[_] rfl rfl _ _ rfl rfl ho.out rfl (by intro u hu; simp at hu; subst hu; rfl) (by unfold maxLen; omega) (by omega) hgl.out (n + 1) rfl _ rfl ?_; intro A2 c2 w2 o2 at2 _; have hp := Lib.hid (he.out.one at2 (by rw [hn.out ()]) o2); have hm2 := he.out.mid at2; have m0 := hm2.1; have m1 := hm2.2; rw [hn.out ()] at m0; clear hm2 o2 at2 c0 fz))
      go_roundw
      case rel => exact ⟨j + 1, u / 256, acc ++ [y], A2, c2, by omega, by go_num, by go_num, by simp [hal], hnx, Lib.hid (by rw [← List.append_assoc]; exact hp.out.1), Lib.hid (hr.out.trans hp.out.2)⟩
      case measure => simp [intOf]; omega
    · have hfin : Hid (acc = V) := Lib.hid (by
        have := hu.out
        rw [show 8 - j = 0 by omega, fixF, List.append_nil] at this
        exact this)
      go_wp2_with fail
      go_end0
      exact ⟨⟨_, rfl⟩, A1, c1, by rw [← hfin.out]; exact he.out, hr.out⟩

end Go.Proofs.YtkjndgapejbgcaaDoor

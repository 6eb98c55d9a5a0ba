/- The document's bytes of numbers: Var, Fixed. -/
import Derived.Test.YtkjndgapejbgcaaDoorEncP
namespace Go.Proofs.YtkjndgapejbgcaaDoor
open Go.RowKit
set_option linter.unusedSimpArgs false

set_option maxRecDepth 20000 in
set_option maxHeartbeats 1000000 in
theorem refVar_any (w : World) (v : Nat) (hv : v < 18446744073709551616) :
    Calls Tryd.prog 71 #[.int .u64 (v : Int)] w fun e w' => (∃ A c, e = .returned (.slice A (varL v).length c) ∧ Own w' w.heap.size 5 1 A (varL v).length c (u8s (varL v))) ∧ Below w.heap.size w w' := by
  obtain ⟨V, hV⟩ : ∃ V, Hid (∀ _ : Unit, varL v = V) := ⟨_, Lib.hid fun _ => rfl⟩
  rw [hV.out ()]
  have hst : Hid ([] ++ varF 10 v = V ∧ v < 128 ^ 10) := Lib.hid ⟨hV.out (), by omega⟩
  go_enter Tryd.func71, Tryd.ntmps71
  go_wp2_with fail
  go_loopw [0, 3] (fun vv sv wr => ∃ (f u : Nat) (acc : List Nat) (A : Option Addr) (c : Nat), vv = .int .u64 (u : Int) ∧ u < 18446744073709551616 ∧ f ≤ 9 ∧ acc.length + f ≤ 9 ∧ sv = .slice A acc.length c ∧ Hid (acc ++ varF (f + 1) u = V ∧ u < 128 ^ (f + 1)) ∧ Hid (Own wr w.heap.size 5 1 A acc.length c (u8s acc)) ∧ Hid (Below w.heap.size w wr)) (fun vv _ _ => (intOf vv).toNat)
  case atStart => exact ⟨9, v, [], none, 0, rfl, hv, by omega, by simp, rfl, hst, Lib.hid (Own.nil _ _ _ _), Lib.hid (Below.refl _ _)⟩
  case round =>
    clear hst
    obtain ⟨f, u, acc, A1, c1, rfl, hu64, hf, hal, rfl, hu, ho, hb⟩ := hrel
    obtain ⟨n, hn⟩ : ∃ n, Hid (∀ _ : Unit, acc.length = n) := ⟨_, Lib.hid fun _ => rfl⟩
    have hnl : n ≤ 9 := by rw [← hn.out ()]; omega
    rw [hn.out ()] at ho hal ⊢
    have hbs := Lib.hid hb.out.size
    by_cases hu128 : u < 128
    · have hu0 : (u : Int) < 128 := by omega
      have hm : (u : Int) % 256 = (u : Int) := by omega
      have hfin : Hid (acc ++ [u] = V) := Lib.hid (by have := hu.out.1; rwa [varF, if_pos hu128] at this)
      go_wp2_with (first | (at_builtin; refine wpList_app1 elB _ #[_] rfl rfl _ _ rfl rfl ho.out rfl (by intro u hu; simp at hu; subst hu; rfl) (by unfold maxLen; omega) (by omega) hbs.out (n + 1) rfl _ rfl ?_; intro A2 c2 w2 o2 _ b2; have o2' := Lib.hid o2; have b2' := Lib.hid (hb.out.trans b2); clear o2 b2))
      go_ret
      have hl : V.length = n + 1 := by rw [← hfin.out, List.length_append, hn.out ()]; rfl
      refine ⟨⟨A2, c2, by rw [hl]; rfl, ?_⟩, b2'.out⟩
      rw [hl, ← hfin.out, u8s_append]
      exact o2'.out
    · have hu0 : (128 : Int) ≤ (u : Int) := by omega
      obtain ⟨f, rfl⟩ : ∃ q, f = q + 1 := by
        refine ⟨f - 1, ?_⟩
        have := hu.out.2
        by_cases h0 : f = 0
        · subst h0; simp at this; omega
        · omega
      obtain ⟨y, hy⟩ : ∃ y, Hid (u % 128 + 128 = y) := ⟨_, Lib.hid rfl⟩
      have hyz : (u : Int) % 128 + 128 = (y : Int) := by rw [← hy.out]; omega
      have hwq : IntKind.u64.wrap ((u : Int) / 128) = ((u / 128 : Nat) : Int) := by rw [IntKind.wrap_u64]; omega
      have hy256 : (y : Int) % 256 = (y : Int) := by rw [← hy.out]; omega
      have hnx : Hid ((acc ++ [y]) ++ varF (f + 1) (u / 128) = V ∧ u / 128 < 128 ^ (f + 1)) := Lib.hid ⟨by
          have := hu.out.1
          rw [varF, if_neg hu128, hy.out] at this
          rw [List.append_assoc]
          exact this, by
          have := hu.out.2
          rw [Nat.pow_succ, Nat.mul_comm] at this
          exact Nat.div_lt_of_lt_mul this⟩
      go_wp2_with (first | (at_builtin; refine wpList_app1 elB _ #[_] rfl rfl _ _ rfl rfl ho.out rfl (by intro u hu; simp at hu; subst hu; rfl) (by unfold maxLen; omega) (by omega) hbs.out (n + 1) rfl _ rfl ?_; intro A2 c2 w2 o2 _ b2; have o2' := Lib.hid o2; have b2' := Lib.hid (hb.out.trans b2); clear o2 b2))
      go_roundw
      case rel => exact ⟨f, u / 128, acc ++ [y], A2, c2, by go_num, by omega, by omega, by rw [List.length_append, hn.out ()]; simp; omega, by rw [List.length_append, hn.out ()]; rfl, hnx, Lib.hid (by rw [u8s_append, List.length_append, hn.out ()]; exact o2'.out), b2'⟩
      case measure => simp [intOf]; omega

theorem fixF_length : ∀ n u, (fixF n u).length = n
  | 0, _ => rfl
  | n + 1, u => by simp [fixF, fixF_length n]
set_option maxRecDepth 20000 in
set_option maxHeartbeats 1000000 in
theorem refFixed_any (w : World) (v N : Nat) (hv : v < 18446744073709551616) (hN : N ≤ 9) :
    Calls Tryd.prog 73 #[.int .u64 (v : Int), .int .i64 (N : Int)] w fun e w' => (∃ A c, e = .returned (.slice A N c) ∧ Own w' w.heap.size 5 1 A N c (u8s (fixF N v))) ∧ Below w.heap.size w w' := by
  obtain ⟨V, hV⟩ : ∃ V, Hid (∀ _ : Unit, fixF N v = V) := ⟨_, Lib.hid fun _ => rfl⟩
  rw [hV.out ()]
  go_enter Tryd.func73, Tryd.ntmps73
  go_wp2_with fail
  go_loopw [0, 5, 6] (fun vv sv iv wr => ∃ (j u : Nat) (acc : List Nat) (A : Option Addr) (c : Nat), j ≤ N ∧ vv = .int .u64 (u : Int) ∧ u < 18446744073709551616 ∧ iv = .int .i64 (j : Int) ∧ sv = .slice A j c ∧ Hid (acc.length = j ∧ acc ++ fixF (N - j) u = V) ∧ Hid (Own wr w.heap.size 5 1 A j c (u8s acc)) ∧ Hid (Below w.heap.size w wr)) (fun _ _ iv _ => N - (intOf iv).toNat)
  case atStart => exact ⟨0, v, [], none, 0, by omega, rfl, hv, rfl, rfl, Lib.hid ⟨rfl, hV.out ()⟩, Lib.hid (Own.nil _ _ _ _), Lib.hid (Below.refl _ _)⟩
  case round =>
    obtain ⟨j, u, acc, A1, c1, hj, rfl, hu64, rfl, rfl, hu, ho, hb⟩ := hrel
    have hbs := Lib.hid hb.out.size
    by_cases hlt : j < N
    · obtain ⟨y, hy⟩ : ∃ y, Hid (u % 256 = y) := ⟨_, Lib.hid rfl⟩
      have hyz : (u : Int) % 256 = (y : Int) := by rw [← hy.out]; omega
      have hy256 : (y : Int) % 256 = (y : Int) := by rw [← hy.out]; omega
      have hwq : IntKind.u64.wrap ((u : Int) / 256) = ((u / 256 : Nat) : Int) := by rw [IntKind.wrap_u64]; omega
      have hnx : Hid ((acc ++ [y]).length = j + 1 ∧ (acc ++ [y]) ++ fixF (N - (j + 1)) (u / 256) = V) := Lib.hid ⟨by rw [List.length_append, hu.out.1]; rfl, by
        have := hu.out.2
        rw [show N - j = (N - (j + 1)) + 1 by omega, fixF, hy.out] at this
        rw [List.append_assoc]
        exact this⟩
      go_wp2_with (first | (at_builtin; refine wpList_app1 elB _ #[_] rfl rfl _ _ rfl rfl ho.out rfl (by intro u hu; simp at hu; subst hu; rfl) (by unfold maxLen; omega) (by omega) hbs.out (j + 1) rfl _ rfl ?_; intro A2 c2 w2 o2 _ b2; have o2' := Lib.hid o2; have b2' := Lib.hid (hb.out.trans b2); clear o2 b2))
      go_roundw
      case rel => exact ⟨j + 1, u / 256, acc ++ [y], A2, c2, by omega, by go_num, by omega, by go_num, rfl, hnx, Lib.hid (by rw [u8s_append]; exact o2'.out), b2'⟩
      case measure => simp [intOf]; omega
    · obtain rfl : j = N := by omega
      have hfin : acc = V := by
        have := hu.out.2
        rw [Nat.sub_self, fixF, List.append_nil] at this
        exact this
      have ho' := ho.out
      rw [hfin] at ho'
      have ho2 := Lib.hid ho'
      clear ho' hfin
      go_wp2_with fail
      go_ret
      exact ⟨⟨A1, c1, rfl, ho2.out⟩, hb.out⟩
end Go.Proofs.YtkjndgapejbgcaaDoor

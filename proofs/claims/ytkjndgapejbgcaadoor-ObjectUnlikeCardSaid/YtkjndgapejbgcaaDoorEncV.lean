/- An encoder's further methods: Var, Key, Len, Put of a byte. -/
import Derived.Test.YtkjndgapejbgcaaDoorEnc
namespace Go.Proofs.YtkjndgapejbgcaaDoor
open Go.RowKit
set_option linter.unusedSimpArgs false

set_option maxRecDepth 100000 in
theorem or128 : ∀ y : Nat, y < 256 → bits .or .u8 (y : Int) 128 = ((y % 128 + 128 : Nat) : Int) := by decide
/-- A number's bytes, at most f of them. -/
def varF : Nat → Nat → List Nat
  | 0, _ => []
  | f + 1, v => if v < 128 then [v] else (v % 128 + 128) :: varF f (v / 128)
def varL (v : Nat) : List Nat := varF 10 v
theorem varF_length : ∀ f v, (varF f v).length ≤ f
  | 0, _ => Nat.le_refl _
  | f + 1, v => by
    unfold varF
    split
    · simp
    · have := varF_length f (v / 128)
      simp only [List.length_cons]
      omega
theorem EncAt.one {w w' : World} {g c c' n : Nat} {A A' : Option Addr} {l : List Nat} {y : Nat} (h : EncAt w g A c l) (ha : AppAt w w' A A') (hn : n = l.length + 1) (ho : Own w' (g + 1) 5 1 A' n c' (u8s l ++ #[Value.int .u8 (y : Int)].toList)) :
    EncAt (w'.setCell ⟨g, 0, none⟩ (.slice A' n c')) g A' c' (l ++ [y]) ∧ EncR g w A (w'.setCell ⟨g, 0, none⟩ (.slice A' n c')) A' :=
  h.put ha (by rw [List.length_append]; exact hn) (by rw [u8s_append]; exact ho)

set_option maxRecDepth 20000 in
set_option maxHeartbeats 1000000 in
theorem var_any {w : World} {g c : Nat} {A : Option Addr} {l : List Nat} (h : EncAt w g A c l) (v : Nat) (hv : v < 18446744073709551616) (hs : l.length ≤ 70368744177000) :
    Calls Tryd.prog 35 #[.pointer (some ⟨g, 0, none⟩), .int .u64 (v : Int)] w fun e w' => (∃ v, e = .returned v) ∧ ∃ A' c', EncAt w' g A' c' (l ++ varL v) ∧ EncR g w A w' A' := by
  have h' := Lib.hid h
  obtain ⟨V, hV⟩ : ∃ V, Hid (∀ _ : Unit, varL v = V) := ⟨_, Lib.hid fun _ => rfl⟩
  rw [hV.out ()]
  have hst : Hid ([] ++ varF 10 v = V ∧ v < 128 ^ 10) := Lib.hid ⟨hV.out (), by omega⟩
  clear h
  go_enter Tryd.func35, Tryd.ntmps35
  go_wp2_with fail
  refine (ours_any h'.out).mono ?_
  rintro e w' ⟨⟨v0, rfl⟩, rfl⟩
  go_wp2_with fail
  go_loopw [1] (fun vv wr => ∃ (f u : Nat) (acc : List Nat) (A' : Option Addr) (c' : Nat), vv = .int .u64 (u : Int) ∧ f ≤ 9 ∧ acc.length + f ≤ 9 ∧ Hid (acc ++ varF (f + 1) u = V ∧ u < 128 ^ (f + 1)) ∧ Hid (EncAt wr g A' c' (l ++ acc)) ∧ Hid (EncR g w A wr A')) (fun vv _ => (intOf vv).toNat)
  case atStart => exact ⟨9, v, [], A, c, rfl, by omega, by simp, hst, Lib.hid (by rw [List.append_nil]; exact h'.out), Lib.hid (EncR.refl g w A)⟩
  case round =>
    clear hst
    obtain ⟨f, u, acc, A1, c1, rfl, hf, hal, hu, he, hr⟩ := hrel
    obtain ⟨n, hn⟩ : ∃ n, Hid (∀ _ : Unit, (l ++ acc).length = n) := ⟨_, Lib.hid fun _ => rfl⟩
    have hnl : n ≤ 70368744177010 := by rw [← hn.out (), List.length_append]; omega
    have c0 := he.out.c0
    have fz := he.out.fz 0
    rw [hn.out ()] at c0
    have ho : Hid (Own wr (g + 1) 5 1 A1 n c1 (u8s (l ++ acc))) := Lib.hid (by have := he.out.own; rwa [hn.out ()] at this)
    have hgl := Lib.hid (Nat.succ_le_of_lt he.out.lt)
    by_cases hu128 : u < 128
    · have hu0 : (u : Int) < 128 := by omega
      have hm : (u : Int) % 256 = (u : Int) := by omega
      have hfin : Hid (acc ++ [u] = V) := Lib.hid (by have := hu.out.1; rwa [varF, if_pos hu128] at this)
      go_wp2_with (first | (at_builtin; refine wpList_app1 elB _ #[_] rfl rfl _ _ rfl rfl ho.out rfl (by intro u hu; simp at hu; subst hu; rfl) (by unfold maxLen; omega) (by omega) hgl.out (n + 1) rfl _ rfl ?_; intro A2 c2 w2 o2 at2 _; have hp := Lib.hid (he.out.one at2 (by rw [hn.out ()]) o2); have hm2 := he.out.mid at2; have m0 := hm2.1; have m1 := hm2.2; rw [hn.out ()] at m0; clear hm2 o2 at2 c0 fz))
      go_end0
      exact ⟨⟨_, rfl⟩, A2, c2, by rw [← hfin.out, ← List.append_assoc]; exact hp.out.1, hr.out.trans hp.out.2⟩
    · have hu0 : (128 : Int) ≤ (u : Int) := by omega
      obtain ⟨f, rfl⟩ : ∃ q, f = q + 1 := by
        refine ⟨f - 1, ?_⟩
        have := hu.out.2
        by_cases h0 : f = 0
        · subst h0; simp at this; omega
        · omega
      obtain ⟨y, hy⟩ : ∃ y, Hid (u % 128 + 128 = y) := ⟨_, Lib.hid rfl⟩
      have hor : bits .or .u8 ((u : Int) % 256) 128 = (y : Int) := by
        have := or128 (u % 256) (by omega)
        rw [← hy.out]
        rw [show ((u % 256 : Nat) : Int) = (u : Int) % 256 by omega, show u % 256 % 128 = u % 128 by omega] at this
        exact this
      have hnx : Hid ((acc ++ [y]) ++ varF (f + 1) (u / 128) = V ∧ u / 128 < 128 ^ (f + 1)) := Lib.hid ⟨by
          have := hu.out.1
          rw [varF, if_neg hu128, hy.out] at this
          rw [List.append_assoc]
          exact this, by
          have := hu.out.2
          rw [Nat.pow_succ, Nat.mul_comm] at this
          exact Nat.div_lt_of_lt_mul this⟩
      go_wp2_with (first | (at_builtin; refine wpList_app1 elB _ #[_] rfl rfl _ _ rfl rfl ho.out rfl (by intro u hu; simp at hu; subst hu; rfl) (by unfold maxLen; omega) (by omega) hgl.out (n + 1) rfl _ rfl ?_; intro A2 c2 w2 o2 at2 _; have hp := Lib.hid (he.out.one at2 (by rw [hn.out ()]) o2); have hm2 := he.out.mid at2; have m0 := hm2.1; have m1 := hm2.2; rw [hn.out ()] at m0; clear hm2 o2 at2 c0 fz))
      go_roundw
      case rel => exact ⟨f, u / 128, acc ++ [y], A2, c2, by go_num, by omega, by simp; omega, hnx, Lib.hid (by rw [← List.append_assoc]; exact hp.out.1), Lib.hid (hr.out.trans hp.out.2)⟩
      case measure => simp [intOf]; omega
end Go.Proofs.YtkjndgapejbgcaaDoor

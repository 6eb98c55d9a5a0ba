/- An encoder's Put and Bytes, for the filters' bytes. (Printed by tools/genwput.py.) -/
import Derived.Test.YtlghgfnkckaebaaWEnc
import Derived.Test.YtlghgfnkckaebaaWByL
import Derived.Laws.Bits64
namespace Go.Proofs.Ytlghgfnkckaebaa
open Go.RowKit
set_option linter.unusedSimpArgs false

/-- A number's lowest n bytes, the lowest first. -/
def fixF : Nat → Nat → List Nat
  | 0, _ => []
  | n + 1, u => u % 256 :: fixF n (u / 256)
theorem fixF_length : ∀ n u, (fixF n u).length = n
  | 0, _ => rfl
  | n + 1, u => by rw [fixF, List.length_cons, fixF_length n]
theorem fixF_lt : ∀ n u, ∀ x ∈ fixF n u, x < 256
  | 0, _, x, h => by cases h
  | n + 1, u, x, h => by
    rcases List.mem_cons.1 h with rfl | h
    · omega
    · exact fixF_lt n _ x h
theorem EncAt.one {w w' : World} {g c c' n : Nat} {A A' : Option Addr} {l : List Nat} {y : Nat} (h : EncAt w g A c l) (ha : AppAt w w' A A') (hn : n = l.length + 1) (ho : Own w' (g + 1) 5 1 A' n c' (u8s l ++ #[Value.int .u8 (y : Int)].toList)) :
    EncAt (w'.setCell ⟨g, 0, none⟩ (.slice A' n c')) g A' c' (l ++ [y]) ∧ EncR g w A (w'.setCell ⟨g, 0, none⟩ (.slice A' n c')) A' :=
  h.put ha (by rw [List.length_append]; exact hn) (by rw [u8s_append]; exact ho)
set_option maxRecDepth 20000 in
theorem widthuint8_any (w : World) : Calls Try.prog 71 #[] w fun e w' => e = .returned (.int .i64 1) ∧ w = w' := by
  go_enter Try.func71, Try.ntmps71
  go_wp2_with fail
  go_loop [1, 2] (fun i v => (i = .int .i64 0 ∧ v = .int .u8 1) ∨ (i = .int .i64 1 ∧ v = .int .u8 0)) (fun i _ => 2 - (intOf i).toNat)
  case atStart => exact .inl ⟨rfl, rfl⟩
  case round =>
    rcases hrel with ⟨rfl, rfl⟩ | ⟨rfl, rfl⟩
    · go_wp2_with fail
      go_round
      case rel => exact (.inr ⟨rfl, rfl⟩)
      case measure => simp [intOf]
    · go_wp2_with fail
      go_ret
      exact ⟨rfl, rfl⟩
set_option maxRecDepth 20000 in
theorem widthuint16_any (w : World) : Calls Try.prog 72 #[] w fun e w' => e = .returned (.int .i64 2) ∧ w = w' := by
  go_enter Try.func72, Try.ntmps72
  go_wp2_with fail
  go_loop [1, 2] (fun i v => (i = .int .i64 0 ∧ v = .int .u16 1) ∨ (i = .int .i64 1 ∧ v = .int .u16 256) ∨ (i = .int .i64 2 ∧ v = .int .u16 0)) (fun i _ => 3 - (intOf i).toNat)
  case atStart => exact .inl ⟨rfl, rfl⟩
  case round =>
    rcases hrel with ⟨rfl, rfl⟩ | ⟨rfl, rfl⟩ | ⟨rfl, rfl⟩
    · go_wp2_with fail
      go_round
      case rel => exact (.inr (.inl ⟨rfl, rfl⟩))
      case measure => simp [intOf]
    · go_wp2_with fail
      go_round
      case rel => exact (.inr (.inr ⟨rfl, rfl⟩))
      case measure => simp [intOf]
    · go_wp2_with fail
      go_ret
      exact ⟨rfl, rfl⟩
set_option maxRecDepth 20000 in
theorem widthuint64_any (w : World) : Calls Try.prog 73 #[] w fun e w' => e = .returned (.int .i64 8) ∧ w = w' := by
  go_enter Try.func73, Try.ntmps73
  go_wp2_with fail
  go_loop [1, 2] (fun i v => (i = .int .i64 0 ∧ v = .int .u64 1) ∨ (i = .int .i64 1 ∧ v = .int .u64 256) ∨ (i = .int .i64 2 ∧ v = .int .u64 65536) ∨ (i = .int .i64 3 ∧ v = .int .u64 16777216) ∨ (i = .int .i64 4 ∧ v = .int .u64 4294967296) ∨ (i = .int .i64 5 ∧ v = .int .u64 1099511627776) ∨ (i = .int .i64 6 ∧ v = .int .u64 281474976710656) ∨ (i = .int .i64 7 ∧ v = .int .u64 72057594037927936) ∨ (i = .int .i64 8 ∧ v = .int .u64 0)) (fun i _ => 9 - (intOf i).toNat)
  case atStart => exact .inl ⟨rfl, rfl⟩
  case round =>
    rcases hrel with ⟨rfl, rfl⟩ | ⟨rfl, rfl⟩ | ⟨rfl, rfl⟩ | ⟨rfl, rfl⟩ | ⟨rfl, rfl⟩ | ⟨rfl, rfl⟩ | ⟨rfl, rfl⟩ | ⟨rfl, rfl⟩ | ⟨rfl, rfl⟩
    · go_wp2_with fail
      go_round
      case rel => exact (.inr (.inl ⟨rfl, rfl⟩))
      case measure => simp [intOf]
    · go_wp2_with fail
      go_round
      case rel => exact (.inr (.inr (.inl ⟨rfl, rfl⟩)))
      case measure => simp [intOf]
    · go_wp2_with fail
      go_round
      case rel => exact (.inr (.inr (.inr (.inl ⟨rfl, rfl⟩))))
      case measure => simp [intOf]
    · go_wp2_with fail
      go_round
      case rel => exact (.inr (.inr (.inr (.inr (.inl ⟨rfl, rfl⟩)))))
      case measure => simp [intOf]
    · go_wp2_with fail
      go_round
      case rel => exact (.inr (.inr (.inr (.inr (.inr (.inl ⟨rfl, rfl⟩))))))
      case measure => simp [intOf]
    · go_wp2_with fail
      go_round
      case rel => exact (.inr (.inr (.inr (.inr (.inr (.inr (.inl ⟨rfl, rfl⟩)))))))
      case measure => simp [intOf]
    · go_wp2_with fail
      go_round
      case rel => exact (.inr (.inr (.inr (.inr (.inr (.inr (.inr (.inl ⟨rfl, rfl⟩))))))))
      case measure => simp [intOf]
    · go_wp2_with fail
      go_round
      case rel => exact (.inr (.inr (.inr (.inr (.inr (.inr (.inr (.inr ⟨rfl, rfl⟩))))))))
      case measure => simp [intOf]
    · go_wp2_with fail
      go_ret
      exact ⟨rfl, rfl⟩
set_option maxRecDepth 20000 in
set_option maxHeartbeats 1000000 in
theorem putuint8_any {w : World} {g c : Nat} {A : Option Addr} {l : List Nat} (h : EncAt w g A c l) (v : Nat) (hv : v < 256) (hs : l.length ≤ 70368744177000) :
    Calls Try.prog 49 #[.pointer (some ⟨g, 0, none⟩), .int .u8 (v : Int)] w fun e w' => (∃ v, e = .returned v) ∧ ∃ A' c', EncAt w' g A' c' (l ++ fixF 1 v) ∧ EncR g w A w' A' := by
  have h' := Lib.hid h
  obtain ⟨U, hU⟩ : ∃ U, v = U := ⟨_, rfl⟩
  rw [hU]
  rw [hU] at hv
  have hm : (U : Int) % 18446744073709551616 = (U : Int) := by omega
  obtain ⟨V, hV⟩ : ∃ V, Hid (∀ _ : Unit, fixF 1 U = V) := ⟨_, Lib.hid fun _ => rfl⟩
  rw [hV.out ()]
  clear h
  go_enter Try.func49, Try.ntmps49
  go_wp2_with fail
  refine (ours_any h'.out).mono ?_
  rintro e w' ⟨⟨v0, rfl⟩, rfl⟩
  go_wp2_with fail
  refine (widthuint8_any w).mono ?_
  rintro e w' ⟨rfl, rfl⟩
  go_wp2_with fail
  go_loopw [4, 12] (fun uv iv wr => ∃ (j u : Nat) (acc : List Nat) (A' : Option Addr) (c' : Nat), j ≤ 1 ∧ iv = .int .i64 (j : Int) ∧ uv = .int .u64 (u : Int) ∧ acc.length = j ∧ Hid (acc ++ fixF (1 - j) u = V) ∧ Hid (EncAt wr g A' c' (l ++ acc)) ∧ Hid (EncR g w A wr A')) (fun _ iv _ => 1 - (intOf iv).toNat)
  case atStart => exact ⟨0, U, [], A, c, by omega, rfl, rfl, rfl, Lib.hid (hV.out ()), Lib.hid (by rw [List.append_nil]; exact h'.out), Lib.hid (EncR.refl g w A)⟩
  case round =>
    obtain ⟨j, u, acc, A1, c1, hj, rfl, rfl, hal, hu, he, hr⟩ := hrel
    by_cases hlt : j < 1
    · obtain ⟨n, hn⟩ : ∃ n, Hid (∀ _ : Unit, (l ++ acc).length = n) := ⟨_, Lib.hid fun _ => rfl⟩
      have hnl : n ≤ 70368744177010 := by rw [← hn.out (), List.length_append]; omega
      have c0 := he.out.c0
      have fz := he.out.fz 0
      rw [hn.out ()] at c0
      have ho : Hid (Own wr (g + 1) 5 1 A1 n c1 (u8s (l ++ acc))) := Lib.hid (by have := he.out.own; rwa [hn.out ()] at this)
      have hgl := Lib.hid (Nat.succ_le_of_lt he.out.lt)
      obtain ⟨y, hy⟩ : ∃ y, Hid (u % 256 = y) := ⟨_, Lib.hid rfl⟩
      have hyz : (u : Int) % 256 = (y : Int) := by rw [← hy.out]; omega
      have hnx : Hid ((acc ++ [y]) ++ fixF (1 - (j + 1)) (u / 256) = V) := Lib.hid (by
        have := hu.out
        rw [show 1 - j = (1 - (j + 1)) + 1 by omega, fixF, hy.out] at this
        rw [List.append_assoc]
        exact this)
      go_wp2_with (first | (at_builtin; refine wpList_app1 elB _ #[_] rfl rfl _ _ rfl rfl ho.out rfl (by intro u hu; simp at hu; subst hu; rfl) (by unfold maxLen; omega) (by omega) hgl.out (n + 1) rfl _ rfl ?_; intro A2 c2 w2 o2 at2 _; have hp := Lib.hid (he.out.one at2 (by rw [hn.out ()]) o2); have hm2 := he.out.mid at2; have m0 := hm2.1; have m1 := hm2.2; rw [hn.out ()] at m0; clear hm2 o2 at2 c0 fz))
      go_roundw
      case rel => exact ⟨j + 1, u / 256, acc ++ [y], A2, c2, by omega, by go_num, by go_num, by simp [hal], hnx, Lib.hid (by rw [← List.append_assoc]; exact hp.out.1), Lib.hid (hr.out.trans hp.out.2)⟩
      case measure => simp [intOf]; omega
    · have hfin : Hid (acc = V) := Lib.hid (by
        have := hu.out
        rw [show 1 - j = 0 by omega, fixF, List.append_nil] at this
        exact this)
      go_wp2_with fail
      go_end0
      exact ⟨⟨_, rfl⟩, A1, c1, by rw [← hfin.out]; exact he.out, hr.out⟩
set_option maxRecDepth 20000 in
set_option maxHeartbeats 1000000 in
theorem putuint16_any {w : World} {g c : Nat} {A : Option Addr} {l : List Nat} (h : EncAt w g A c l) (v : Nat) (hv : v < 65536) (hs : l.length ≤ 70368744177000) :
    Calls Try.prog 50 #[.pointer (some ⟨g, 0, none⟩), .int .u16 (v : Int)] w fun e w' => (∃ v, e = .returned v) ∧ ∃ A' c', EncAt w' g A' c' (l ++ fixF 2 v) ∧ EncR g w A w' A' := by
  have h' := Lib.hid h
  obtain ⟨U, hU⟩ : ∃ U, v = U := ⟨_, rfl⟩
  rw [hU]
  rw [hU] at hv
  have hm : (U : Int) % 18446744073709551616 = (U : Int) := by omega
  obtain ⟨V, hV⟩ : ∃ V, Hid (∀ _ : Unit, fixF 2 U = V) := ⟨_, Lib.hid fun _ => rfl⟩
  rw [hV.out ()]
  clear h
  go_enter Try.func50, Try.ntmps50
  go_wp2_with fail
  refine (ours_any h'.out).mono ?_
  rintro e w' ⟨⟨v0, rfl⟩, rfl⟩
  go_wp2_with fail
  refine (widthuint16_any w).mono ?_
  rintro e w' ⟨rfl, rfl⟩
  go_wp2_with fail
  go_loopw [4, 12] (fun uv iv wr => ∃ (j u : Nat) (acc : List Nat) (A' : Option Addr) (c' : Nat), j ≤ 2 ∧ iv = .int .i64 (j : Int) ∧ uv = .int .u64 (u : Int) ∧ acc.length = j ∧ Hid (acc ++ fixF (2 - j) u = V) ∧ Hid (EncAt wr g A' c' (l ++ acc)) ∧ Hid (EncR g w A wr A')) (fun _ iv _ => 2 - (intOf iv).toNat)
  case atStart => exact ⟨0, U, [], A, c, by omega, rfl, rfl, rfl, Lib.hid (hV.out ()), Lib.hid (by rw [List.append_nil]; exact h'.out), Lib.hid (EncR.refl g w A)⟩
  case round =>
    obtain ⟨j, u, acc, A1, c1, hj, rfl, rfl, hal, hu, he, hr⟩ := hrel
    by_cases hlt : j < 2
    · obtain ⟨n, hn⟩ : ∃ n, Hid (∀ _ : Unit, (l ++ acc).length = n) := ⟨_, Lib.hid fun _ => rfl⟩
      have hnl : n ≤ 70368744177010 := by rw [← hn.out (), List.length_append]; omega
      have c0 := he.out.c0
      have fz := he.out.fz 0
      rw [hn.out ()] at c0
      have ho : Hid (Own wr (g + 1) 5 1 A1 n c1 (u8s (l ++ acc))) := Lib.hid (by have := he.out.own; rwa [hn.out ()] at this)
      have hgl := Lib.hid (Nat.succ_le_of_lt he.out.lt)
      obtain ⟨y, hy⟩ : ∃ y, Hid (u % 256 = y) := ⟨_, Lib.hid rfl⟩
      have hyz : (u : Int) % 256 = (y : Int) := by rw [← hy.out]; omega
      have hnx : Hid ((acc ++ [y]) ++ fixF (2 - (j + 1)) (u / 256) = V) := Lib.hid (by
        have := hu.out
        rw [show 2 - j = (2 - (j + 1)) + 1 by omega, fixF, hy.out] at this
        rw [List.append_assoc]
        exact this)
      go_wp2_with (first | (at_builtin; refine wpList_app1 elB _ #[_] rfl rfl _ _ rfl rfl ho.out rfl (by intro u hu; simp at hu; subst hu; rfl) (by unfold maxLen; omega) (by omega) hgl.out (n + 1) rfl _ rfl ?_; intro A2 c2 w2 o2 at2 _; have hp := Lib.hid (he.out.one at2 (by rw [hn.out ()]) o2); have hm2 := he.out.mid at2; have m0 := hm2.1; have m1 := hm2.2; rw [hn.out ()] at m0; clear hm2 o2 at2 c0 fz))
      go_roundw
      case rel => exact ⟨j + 1, u / 256, acc ++ [y], A2, c2, by omega, by go_num, by go_num, by simp [hal], hnx, Lib.hid (by rw [← List.append_assoc]; exact hp.out.1), Lib.hid (hr.out.trans hp.out.2)⟩
      case measure => simp [intOf]; omega
    · have hfin : Hid (acc = V) := Lib.hid (by
        have := hu.out
        rw [show 2 - j = 0 by omega, fixF, List.append_nil] at this
        exact this)
      go_wp2_with fail
      go_end0
      exact ⟨⟨_, rfl⟩, A1, c1, by rw [← hfin.out]; exact he.out, hr.out⟩
set_option maxRecDepth 20000 in
set_option maxHeartbeats 1000000 in
theorem putuint64_any {w : World} {g c : Nat} {A : Option Addr} {l : List Nat} (h : EncAt w g A c l) (v : Nat) (hv : v < 18446744073709551616) (hs : l.length ≤ 70368744177000) :
    Calls Try.prog 51 #[.pointer (some ⟨g, 0, none⟩), .int .u64 (v : Int)] w fun e w' => (∃ v, e = .returned v) ∧ ∃ A' c', EncAt w' g A' c' (l ++ fixF 8 v) ∧ EncR g w A w' A' := by
  have h' := Lib.hid h
  obtain ⟨U, hU⟩ : ∃ U, v = U := ⟨_, rfl⟩
  rw [hU]
  rw [hU] at hv
  have hm : (U : Int) % 18446744073709551616 = (U : Int) := by omega
  obtain ⟨V, hV⟩ : ∃ V, Hid (∀ _ : Unit, fixF 8 U = V) := ⟨_, Lib.hid fun _ => rfl⟩
  rw [hV.out ()]
  clear h
  go_enter Try.func51, Try.ntmps51
  go_wp2_with fail
  refine (ours_any h'.out).mono ?_
  rintro e w' ⟨⟨v0, rfl⟩, rfl⟩
  go_wp2_with fail
  refine (widthuint64_any w).mono ?_
  rintro e w' ⟨rfl, rfl⟩
  go_wp2_with fail
  go_loopw [4, 11] (fun uv iv wr => ∃ (j u : Nat) (acc : List Nat) (A' : Option Addr) (c' : Nat), j ≤ 8 ∧ iv = .int .i64 (j : Int) ∧ uv = .int .u64 (u : Int) ∧ acc.length = j ∧ Hid (acc ++ fixF (8 - j) u = V) ∧ Hid (EncAt wr g A' c' (l ++ acc)) ∧ Hid (EncR g w A wr A')) (fun _ iv _ => 8 - (intOf iv).toNat)
  case atStart => exact ⟨0, U, [], A, c, by omega, rfl, rfl, rfl, Lib.hid (hV.out ()), Lib.hid (by rw [List.append_nil]; exact h'.out), Lib.hid (EncR.refl g w A)⟩
  case round =>
    obtain ⟨j, u, acc, A1, c1, hj, rfl, rfl, hal, hu, he, hr⟩ := hrel
    by_cases hlt : j < 8
    · obtain ⟨n, hn⟩ : ∃ n, Hid (∀ _ : Unit, (l ++ acc).length = n) := ⟨_, Lib.hid fun _ => rfl⟩
      have hnl : n ≤ 70368744177010 := by rw [← hn.out (), List.length_append]; omega
      have c0 := he.out.c0
      have fz := he.out.fz 0
      rw [hn.out ()] at c0
      have ho : Hid (Own wr (g + 1) 5 1 A1 n c1 (u8s (l ++ acc))) := Lib.hid (by have := he.out.own; rwa [hn.out ()] at this)
      have hgl := Lib.hid (Nat.succ_le_of_lt he.out.lt)
      obtain ⟨y, hy⟩ : ∃ y, Hid (u % 256 = y) := ⟨_, Lib.hid rfl⟩
      have hyz : (u : Int) % 256 = (y : Int) := by rw [← hy.out]; omega
      have hnx : Hid ((acc ++ [y]) ++ fixF (8 - (j + 1)) (u / 256) = V) := Lib.hid (by
        have := hu.out
        rw [show 8 - j = (8 - (j + 1)) + 1 by omega, fixF, hy.out] at this
        rw [List.append_assoc]
        exact this)
      go_wp2_with (first | (at_builtin; refine wpList_app1 elB _ #[_] rfl rfl _ _ rfl rfl ho.out rfl (by intro u hu; simp at hu; subst hu; rfl) (by unfold maxLen; omega) (by omega) hgl.out (n + 1) rfl _ rfl ?_; intro A2 c2 w2 o2 at2 _; have hp := Lib.hid (he.out.one at2 (by rw [hn.out ()]) o2); have hm2 := he.out.mid at2; have m0 := hm2.1; have m1 := hm2.2; rw [hn.out ()] at m0; clear hm2 o2 at2 c0 fz))
      go_roundw
      case rel => exact ⟨j + 1, u / 256, acc ++ [y], A2, c2, by omega, by go_num, by go_num, by simp [hal], hnx, Lib.hid (by rw [← List.append_assoc]; exact hp.out.1), Lib.hid (hr.out.trans hp.out.2)⟩
      case measure => simp [intOf]; omega
    · have hfin : Hid (acc = V) := Lib.hid (by
        have := hu.out
        rw [show 8 - j = 0 by omega, fixF, List.append_nil] at this
        exact this)
      go_wp2_with fail
      go_end0
      exact ⟨⟨_, rfl⟩, A1, c1, by rw [← hfin.out]; exact he.out, hr.out⟩
/-- A fresh encoder. -/
structure EncZ (w : World) (g : Nat) : Prop where
  blk : w.heap[g]? = some (.cells #[.slice none 0 0, .pointer none] 92 (0, 0))
theorem EncZ.c0 {w : World} {g : Nat} (h : EncZ w g) : w.cell? ⟨g, 0, none⟩ = some (.slice none 0 0) := cell_of_row _ _ _ _ _ _ h.blk
theorem EncZ.c1 {w : World} {g : Nat} (h : EncZ w g) : w.cell? ⟨g, 1, none⟩ = some (.pointer none) := cell_of_row _ _ _ _ _ _ h.blk
theorem EncZ.fz {w : World} {g : Nat} (h : EncZ w g) (j : Nat) : w.frozen? ⟨g, j, none⟩ = false := by simp [World.frozen?, h.blk]
theorem EncZ.own {w : World} {g : Nat} (h : EncZ w g) : EncAt ((w.setCell ⟨g, 0, none⟩ (.slice none 0 0)).setCell ⟨g, 1, none⟩ (.pointer (some ⟨g, 0, none⟩))) g none 0 [] ∧
    EncR g w none ((w.setCell ⟨g, 0, none⟩ (.slice none 0 0)).setCell ⟨g, 1, none⟩ (.pointer (some ⟨g, 0, none⟩))) none := by
  have h1 := heap_setCell_same w g 0 _ _ (.slice none 0 0) h.blk
  have h2 := heap_setCell_same _ g 1 _ _ (.pointer (some ⟨g, 0, none⟩)) h1
  refine ⟨⟨by rw [h2]; simp, Own.nil _ _ _ _⟩, ⟨rfl, rfl, rfl, by simp, fun k hk hkg _ => ?_, .inl rfl⟩⟩
  rw [heap_setCell_other _ _ k _ hkg, heap_setCell_other _ _ k _ hkg]
theorem ptr_neqIn (d : Nat) (a : Addr) (w : World) : (Op.equalIn (d + 1) 90 (.pointer none) (.pointer (some a))).run Try.prog w = .ok false w := by
  have hs : (sizeOf 92).run Try.prog w = .ok 2 w := Try.sizeOf92 w
  simp [Op.equalIn, run_underlying Try.underlying90, hs, sameAddr]
theorem ptr_neqN (a : Addr) (w : World) : (binOp .neq 90 (.pointer none) (.pointer (some a))).run Try.prog w = .ok (.bool true) w := by
  have he : (Op.equal 90 (.pointer none) (.pointer (some a))).run Try.prog w = .ok false w := ptr_neqIn 9999 a w
  simp only [binOp]
  simp [he]

set_option maxRecDepth 20000 in
theorem oursF_any {w : World} {g : Nat} (h : EncZ w g) : Calls Try.prog 74 #[.pointer (some ⟨g, 0, none⟩)] w fun e w' => (∃ v, e = .returned v) ∧ EncAt w' g none 0 [] ∧ EncR g w none w' none := by
  have c0 := h.c0
  have c1 := h.c1
  have f0 := h.fz 0
  have f1 := h.fz 1
  have hq := ptr_neqN ⟨g, 0, none⟩
  have ho := Lib.hid h.own
  clear h
  go_enter Try.func74, Try.ntmps74
  go_wp2_with fail
  refine (bytes_Clone_nil 0 0 _).mono ?_
  rintro e w' ⟨rfl, rfl⟩
  go_wp2_with fail
  go_end0
  exact ⟨⟨_, rfl⟩, ho.out⟩
set_option maxRecDepth 20000 in
set_option maxHeartbeats 1000000 in
theorem put8F_any {w : World} {g : Nat} (h : EncZ w g) (v : Nat) (hv : v < 256) :
    Calls Try.prog 49 #[.pointer (some ⟨g, 0, none⟩), .int .u8 (v : Int)] w fun e w' => (∃ v, e = .returned v) ∧ ∃ A' c', EncAt w' g A' c' (fixF 1 v) ∧ EncR g w none w' A' := by
  have h' := Lib.hid h
  obtain ⟨U, hU⟩ : ∃ U, v = U := ⟨_, rfl⟩
  rw [hU]
  rw [hU] at hv
  have hm : (U : Int) % 18446744073709551616 = (U : Int) := by omega
  obtain ⟨V, hV⟩ : ∃ V, Hid (∀ _ : Unit, fixF 1 U = V) := ⟨_, Lib.hid fun _ => rfl⟩
  rw [hV.out ()]
  clear h
  go_enter Try.func49, Try.ntmps49
  go_wp2_with fail
  refine (oursF_any h'.out).mono ?_
  rintro e w1 ⟨⟨v0, rfl⟩, he0, hr0⟩
  have he0' := Lib.hid he0
  have hr0' := Lib.hid hr0
  clear he0 hr0 h'
  go_wp2_with fail
  refine (widthuint8_any w1).mono ?_
  rintro e w' ⟨rfl, rfl⟩
  go_wp2_with fail
  go_loopw [4, 12] (fun uv iv wr => ∃ (j u : Nat) (acc : List Nat) (A' : Option Addr) (c' : Nat), j ≤ 1 ∧ iv = .int .i64 (j : Int) ∧ uv = .int .u64 (u : Int) ∧ acc.length = j ∧ Hid (acc ++ fixF (1 - j) u = V) ∧ Hid (EncAt wr g A' c' acc) ∧ Hid (EncR g w none wr A')) (fun _ iv _ => 1 - (intOf iv).toNat)
  case atStart => exact ⟨0, U, [], none, 0, by omega, rfl, rfl, rfl, Lib.hid (hV.out ()), he0', hr0'⟩
  case round =>
    obtain ⟨j, u, acc, A1, c1, hj, rfl, rfl, hal, hu, he, hr⟩ := hrel
    by_cases hlt : j < 1
    · obtain ⟨n, hn⟩ : ∃ n, Hid (∀ _ : Unit, acc.length = n) := ⟨_, Lib.hid fun _ => rfl⟩
      have hnl : n ≤ 70368744177010 := by rw [← hn.out ()]; omega
      have c0 := he.out.c0
      have fz := he.out.fz 0
      rw [hn.out ()] at c0
      have ho : Hid (Own wr (g + 1) 5 1 A1 n c1 (u8s acc)) := Lib.hid (by have := he.out.own; rwa [hn.out ()] at this)
      have hgl := Lib.hid (Nat.succ_le_of_lt he.out.lt)
      obtain ⟨y, hy⟩ : ∃ y, Hid (u % 256 = y) := ⟨_, Lib.hid rfl⟩
      have hyz : (u : Int) % 256 = (y : Int) := by rw [← hy.out]; omega
      have hnx : Hid ((acc ++ [y]) ++ fixF (1 - (j + 1)) (u / 256) = V) := Lib.hid (by
        have := hu.out
        rw [show 1 - j = (1 - (j + 1)) + 1 by omega, fixF, hy.out] at this
        rw [List.append_assoc]
        exact this)
      go_wp2_with (first | (at_builtin; refine wpList_app1 elB _ #[_] rfl rfl _ _ rfl rfl ho.out rfl (by intro u hu; simp at hu; subst hu; rfl) (by unfold maxLen; omega) (by omega) hgl.out (n + 1) rfl _ rfl ?_; intro A2 c2 w2 o2 at2 _; have hp := Lib.hid (he.out.one at2 (by rw [hn.out ()]) o2); have hm2 := he.out.mid at2; have m0 := hm2.1; have m1 := hm2.2; rw [hn.out ()] at m0; clear hm2 o2 at2 c0 fz))
      go_roundw
      case rel => exact ⟨j + 1, u / 256, acc ++ [y], A2, c2, by omega, by go_num, by go_num, by simp [hal], hnx, Lib.hid hp.out.1, Lib.hid (hr.out.trans hp.out.2)⟩
      case measure => simp [intOf]; omega
    · have hfin : Hid (acc = V) := Lib.hid (by
        have := hu.out
        rw [show 1 - j = 0 by omega, fixF, List.append_nil] at this
        exact this)
      go_wp2_with fail
      go_end0
      exact ⟨⟨_, rfl⟩, A1, c1, by rw [← hfin.out]; exact he.out, hr.out⟩

theorem clone_any {w : World} {B : Nat} {A : Option Addr} {l : List Nat} (hb : Byt w B A l) (n c : Nat) (hn : l.length = n) (h0 : 0 < n) (hs : n ≤ 140737488355328) :
    Calls Try.prog 68 #[.slice A n c] w fun e w' => (∃ A' c', e = .returned (.slice A' n c') ∧ Own w' w.heap.size 5 1 A' n c' (u8s l)) ∧ Below w.heap.size w w' := by
  subst hn
  obtain ⟨b, off, rfl, _, hc⟩ := hb h0
  refine (bytes_Clone_at ⟨b, off, none⟩ l.length c (l.map fun x : Nat => (x : Int)) w (by simp) hs ?_).mono ?_
  · intro i hi
    rw [Addr.add_lit, hc i hi]
    simp [List.getD, List.getElem?_eq_getElem hi]
  · rintro e w' ⟨v', rfl, hown, _, hbel⟩
    obtain ⟨A', c', rfl⟩ := own_form hown
    have e1 : (l.map fun x : Nat => (x : Int)).map (Value.int .u8) = u8s l := by simp [u8s]
    rw [e1] at hown
    exact ⟨⟨A', c', rfl, hown⟩, hbel⟩

theorem encbytes_any {w : World} {g c : Nat} {A : Option Addr} {l : List Nat} (h : EncAt w g A c l) (h0 : 0 < l.length) (hs : l.length ≤ 140737488355328) :
    Calls Try.prog 52 #[.pointer (some ⟨g, 0, none⟩)] w fun e w' => (∃ A' c', e = .returned (.slice A' l.length c') ∧ Own w' w.heap.size 5 1 A' l.length c' (u8s l)) ∧ Below w.heap.size w w' := by
  have c0 := h.c0
  have hcl := Lib.hid (clone_any h.own.byt l.length c rfl h0 hs)
  obtain ⟨n, hn⟩ : ∃ n, Hid (∀ _ : Unit, l.length = n) := ⟨_, Lib.hid fun _ => rfl⟩
  rw [hn.out ()] at c0 hcl ⊢
  clear h
  go_enter Try.func52, Try.ntmps52
  go_wp2_with fail
  refine hcl.out.mono ?_
  rintro e w' ⟨⟨A', c', rfl, o⟩, b⟩
  have o' := Lib.hid o
  have b' := Lib.hid b
  clear o b
  go_wp2_with fail
  go_ret
  exact ⟨⟨A', c', rfl, o'.out⟩, b'.out⟩

end Go.Proofs.Ytlghgfnkckaebaa

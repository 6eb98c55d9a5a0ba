/- More, Crc: both sides are Crc.more. -/
import Derived.Test.YtjofpjioaiamhaaTable
namespace Go.Proofs.Ytjofpjioaiamhaa
open Go.RowKit

theorem xor_flip {x : Nat} (h : x < 4294967296) : 4294967295 ^^^ x = Crc.flip x := by
  unfold Crc.flip
  apply Nat.eq_of_testBit_eq
  intro i
  have h1 : 4294967295 - x = 2 ^ 32 - (x + 1) := by omega
  rw [h1, Nat.testBit_two_pow_sub_succ (by omega), Nat.testBit_xor, show 4294967295 = 2 ^ 32 - 1 from rfl, Nat.testBit_two_pow_sub_one]
  by_cases hi : i < 32
  · simp [hi]
  · have : x.testBit i = false := Nat.testBit_lt_two_pow (Nat.lt_of_lt_of_le h (Nat.le_trans (by decide : 4294967296 ≤ 2 ^ 32) (Nat.pow_le_pow_right (by decide) (by omega))))
    simp [hi, this]
theorem u32_flip {x : Nat} (h : x < 4294967296) : bits .xor .u32 IntKind.u32.max (x : Int) = (Crc.flip x : Nat) := by
  rw [← xor_flip h]
  exact u32_xor_nat 4294967295 x (by decide) h
theorem tab_cell {w : World} {g X : Nat} {t : TypeId} (h : w.heap[g]? = some (.cells (tabTo 256) t (0, 0))) (hX : X < 256) : w.cell? ⟨g, X, none⟩ = some (.int .u32 (Crc.lfn 8 X : Nat)) := by
  rw [cell_of_row w g X _ _ _ h, tabTo_get hX, if_pos hX]
theorem tab_step {r b : Nat} (hr : r < 4294967296) : bits .xor .u32 ((r : Int) / 256) (Crc.lfn 8 ((r % 256) ^^^ b) : Nat) = (Crc.step r b : Nat) ∨ 256 ≤ b := by
  by_cases hb : b < 256
  · left
    have h3 : (r : Int) / 256 = ((r / 256 : Nat) : Int) := by omega
    have hx : (r % 256) ^^^ b < 256 := Nat.xor_lt_two_pow (n := 8) (by omega) (by omega)
    rw [h3, u32_xor_nat _ _ (by omega) (Crc.lfn_lt 8 (by omega)), Crc.step_table]
  · right
    omega
theorem bytes_take {l : List Nat} {k : Nat} (h : k < l.length) : l.take (k + 1) = l.take k ++ [l[k]?.getD 0] := by
  rw [List.take_add_one, List.getElem?_eq_getElem h]
  rfl
theorem bytes_getD {l : List Nat} (h : ∀ b ∈ l, b < 256) (k : Nat) : l[k]?.getD 0 < 256 := by
  rcases Nat.lt_or_ge k l.length with hk | hk
  · rw [List.getElem?_eq_getElem hk]
    exact h _ (List.getElem_mem hk)
  · rw [List.getElem?_eq_none hk]
    decide

set_option maxRecDepth 20000 in
set_option maxHeartbeats 1000000 in
theorem more_any (s : Nat) (l : List Nat) (A : Option Addr) (n c B : Nat) (w : World) (hs : s < 4294967296) (hl : ∀ b ∈ l, b < 256) (hn : l.length = n) (hnm : n ≤ 4611686018427387904) (hB : B ≤ w.heap.size) (h : Byt w B A l) :
    Calls Try.prog 10 #[.int .u32 s, .slice A n c] w fun e w' => e = .returned (.int .u32 (Crc.more s l : Nat)) ∧ Below w.heap.size w w' := by
  have hz := table_zero
  have hl' := Lib.hid hl
  have hn' := Lib.hid hn
  have h' := Lib.hid h
  clear hl hn h
  go_enter Try.func10, Try.ntmps10
  go_wp2_with (first
    | (go_at_call 24; refine (table_any _).mono ?_; rintro e w1 ⟨rfl, hb1⟩)
    | (refine wpList_store_row rfl 53 _ _ rfl w1.heap.size (tabTo 256) rfl rfl _ _ (heap_alloc_new w1 _) (by rw [tabTo_size]; kernel_rfl) (by rw [tabTo_size, tabTo_size]) (by simp [tabTo, Value.oneCell']) ?_))
  rw [u32_flip hs]
  have hsz : w1.heap.size = w1.heap.size := rfl
  have ht := setRow_heap (w1.alloc (.cells (tabTo 0) 53)) w1.heap.size _ (tabTo 256) _ _ (heap_alloc_new w1 _)
  have hb2 : Below w.heap.size w ((w1.alloc (.cells (tabTo 0) 53)).setRow w1.heap.size (tabTo 256)) :=
    (hb1.alloc hb1.size _).trans (grown_below (row := some w1.heap.size) ⟨rfl, rfl, rfl, by simp, fun k' _ hk' => setRow_other _ _ _ _ (fun e => hk' (by rw [e]))⟩ (by have := hb1.size; simp; omega) (by intro k' hk'; cases hk'; exact hb1.size))
  generalize ((w1.alloc (.cells (tabTo 0) 53)).setRow w1.heap.size (tabTo 256)) = w2 at ht hb2 ⊢
  generalize w1.heap.size = g at ht ⊢
  clear hb1 hsz
  have hr := Lib.hid (Rd.below h'.out (hb2.mono hB))
  have hb3 := Lib.hid hb2
  clear h' hb2
  go_loop [6, 14] (fun r i => ∃ k : Nat, k ≤ n ∧ i = .int .i64 k ∧ r = .int .u32 (Crc.run (Crc.flip s) (l.take k) : Nat)) (fun _ i => n - (intOf i).toNat)
  case atStart => exact ⟨0, by omega, rfl, rfl⟩
  case round =>
    obtain ⟨k, hk, rfl, rfl⟩ := hrel
    have hrun : Crc.run (Crc.flip s) (l.take k) < 4294967296 := Crc.run_lt (Crc.flip_lt s) (fun b hb => hl'.out b (List.mem_of_mem_take hb))
    by_cases hlt : k < n
    · obtain ⟨b, off, rfl, _, q⟩ := Rd.get hr.out (by rw [hn'.out]; exact hlt)
      have e1 := Lib.hid (bytes_take (l := l) (k := k) (by rw [hn'.out]; exact hlt))
      have hbb := bytes_getD hl'.out k
      generalize l[k]?.getD 0 = y at q e1 hbb
      generalize hR : Crc.run (Crc.flip s) (l.take k) = R at hrun
      have hX : (R % 256) ^^^ y < 256 := Nat.xor_lt_two_pow (n := 8) (by omega) (by omega)
      have hidx : bits .xor .u8 ((R : Int) % 256) (y : Int) = (((R % 256) ^^^ y : Nat) : Int) := u8_xor_nat (R % 256) y (by omega) hbb
      have hcell := tab_cell ht hX
      have hst := (tab_step (r := R) (b := y) hrun).resolve_right (by omega)
      have hR' := Lib.hid hR
      clear hR
      generalize hXX : (R % 256) ^^^ y = X at hX hidx hcell hst
      clear hXX
      go_wp2_with fail
      go_round
      case rel => exact ⟨k + 1, by omega, by go_num, by rw [e1.out, Crc.run_snoc, hR'.out]⟩
      case measure => simp [intOf]; omega
    · rw [show k = n by omega] at hrun ⊢
      go_wp2_with fail
      go_ret
      refine ⟨ret_int ?_, hb3.out⟩
      rw [u32_flip hrun]
      unfold Crc.more
      rw [← hn'.out, List.take_length]

set_option maxRecDepth 20000 in
theorem crc_any (l : List Nat) (A : Option Addr) (n c B : Nat) (w : World) (hl : ∀ b ∈ l, b < 256) (hn : l.length = n) (hnm : n ≤ 4611686018427387904) (hB : B ≤ w.heap.size) (h : Byt w B A l) :
    Calls Try.prog 9 #[.slice A n c] w fun e w' => e = .returned (.int .u32 (Crc.more 0 l : Nat)) ∧ Below w.heap.size w w' := by
  have hl' := Lib.hid hl
  have hn' := Lib.hid hn
  have h' := Lib.hid h
  clear hl hn h
  go_enter Try.func9, Try.ntmps9
  go_wp2_with fail
  refine (more_any 0 l A n c B w (by decide) hl'.out hn'.out hnm hB h'.out).mono ?_
  rintro e w' ⟨rfl, hb⟩
  go_wp2_with fail
  go_ret
  exact ⟨rfl, hb⟩

/-- joined: a list of both, of its own. -/
theorem elB : ElemOk Try.prog 23 5 (.int .u8 0) 1 1 := ⟨Try.underlying23, by kernel_rfl, rfl, by decide⟩

theorem u8s_one_more {l : List Nat} {k : Nat} (h : k < l.length) (m : List Nat) : u8s (m ++ l.take k) ++ [.int .u8 ((l[k]?.getD 0 : Nat) : Int)] = u8s (m ++ l.take (k + 1)) := by
  rw [bytes_take h]
  simp [u8s]

set_option maxRecDepth 20000 in
set_option maxHeartbeats 1000000 in
theorem joined_any (l m : List Nat) (A1 A2 : Option Addr) (n1 n2 c1 c2 B : Nat) (w : World) (hn1 : l.length = n1) (hn2 : m.length = n2) (h1m : n1 ≤ 140737488351232) (h2m : n2 ≤ 140737488351232) (hs : n1 + n2 ≤ 225000000000000) (hB : B ≤ w.heap.size) (h1 : Byt w B A1 l) (h2 : Byt w B A2 m) :
    Calls Try.prog 11 #[.slice A1 n1 c1, .slice A2 n2 c2] w fun e w' => (∃ A c, e = .returned (.slice A (n1 + n2) c) ∧ Own w' w.heap.size 5 1 A (n1 + n2) c (u8s (l ++ m))) ∧ Below w.heap.size w w' := by
  have hn1' := Lib.hid hn1
  have hn2' := Lib.hid hn2
  have h1' := Lib.hid h1
  have h2' := Lib.hid h2
  clear hn1 hn2 h1 h2
  go_enter Try.func11, Try.ntmps11
  go_wp2_with fail
  go_loopw [5, 6] (fun s i wr => ∃ (k : Nat) (A : Option Addr) (c : Nat), k ≤ n1 ∧ i = .int .i64 k ∧ s = .slice A k c ∧ Own wr w.heap.size 5 1 A k c (u8s ([] ++ l.take k)) ∧ Below w.heap.size w wr) (fun _ i _ => n1 - (intOf i).toNat)
  case atStart => exact ⟨0, none, 0, by omega, rfl, rfl, by simpa [u8s] using Own.nil w w.heap.size _ _, Below.refl _ _⟩
  case round =>
    obtain ⟨k, A, c, hk, rfl, rfl, hown, hbel⟩ := hrel
    by_cases hlt : k < n1
    · obtain ⟨b, off, rfl, _, q⟩ := Rd.get (Rd.below h1'.out (hbel.mono hB)) (by rw [hn1'.out]; exact hlt)
      go_wp2_with (at_builtin; refine wpList_app1 elB _ #[_] rfl rfl _ _ rfl rfl hown rfl (by intro u hu; simp at hu; subst hu; rfl) (by unfold maxLen; omega) (by omega) hbel.size (k + 1) rfl _ rfl ?_; intro A' c' w' hown' _ hb')
      go_roundw
      case rel => exact ⟨k + 1, A', c', by omega, by go_num, rfl, by rw [← u8s_one_more (by rw [hn1'.out]; exact hlt)]; exact hown', hbel.trans hb'⟩
      case measure => simp [intOf]; omega
    · obtain rfl : k = n1 := by omega
      have e1 : u8s ([] ++ l.take k) = u8s (l ++ m.take 0) := by simp [← hn1'.out]
      rw [e1] at hown
      clear e1
      go_wp2_with fail
      go_loopw [5, 7] (fun s i wr => ∃ (j : Nat) (A : Option Addr) (c : Nat), j ≤ n2 ∧ i = .int .i64 j ∧ s = .slice A (k + j) c ∧ Own wr w.heap.size 5 1 A (k + j) c (u8s (l ++ m.take j)) ∧ Below w.heap.size w wr) (fun _ i _ => n2 - (intOf i).toNat)
      case atStart => exact ⟨0, A, c, by omega, rfl, rfl, hown, hbel⟩
      case round =>
        clear hown hbel hlt hk
        obtain ⟨j, A, c, hj, rfl, rfl, hown, hbel⟩ := hrel
        by_cases hlt : j < n2
        · obtain ⟨b, off, rfl, _, q⟩ := Rd.get (Rd.below h2'.out (hbel.mono hB)) (by rw [hn2'.out]; exact hlt)
          go_wp2_with (at_builtin; refine wpList_app1 elB _ #[_] rfl rfl _ _ rfl rfl hown rfl (by intro u hu; simp at hu; subst hu; rfl) (by unfold maxLen; omega) (by omega) hbel.size (k + (j + 1)) rfl _ rfl ?_; intro A' c' w' hown' _ hb')
          go_roundw
          case rel => exact ⟨j + 1, A', c', by omega, by go_num, rfl, by rw [← u8s_one_more (by rw [hn2'.out]; exact hlt)]; exact hown', hbel.trans hb'⟩
          case measure => simp [intOf]; omega
        · obtain rfl : j = n2 := by omega
          go_wp2_with fail
          go_ret
          exact ⟨⟨A, c, rfl, by rw [← hn2'.out, List.take_length] at hown; exact hn2'.out ▸ hown⟩, hbel⟩
end Go.Proofs.Ytjofpjioaiamhaa

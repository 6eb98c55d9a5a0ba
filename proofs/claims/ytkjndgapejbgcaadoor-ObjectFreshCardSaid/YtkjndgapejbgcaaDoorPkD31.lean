/- What is laid behind n bytes: the two functions Tail. The digest of a list of bytes: the plain law. A Hasher: what its cells hold; now, take. A Hasher takes a block. -/
import Derived.Test.YtkjndgapejbgcaaDoorProg
import Derived.Test.YtkjndgapejbgcaaDoorPkD1
import Derived.Test.YtkjndgapejbgcaaDoorPkD30
import Derived.Test.YtkjndgapejbgcaaDoorPkD27
import Derived.Deep.RegionHeld3

namespace Go.Proofs.YtkjndgapejbgcaaDoor
open Go.RowKit

/-- How many noughts. -/
def noughts (n : Nat) : Nat := (119 - n % 64) % 64
/-- Byte i of the number of bits, the highest first. -/
def bitLen (n : Nat) : Nat := n * 8 % 18446744073709551616
def dv (T i : Nat) : Nat := T / 256 ^ i
def bitByte (n i : Nat) : Nat := dv (bitLen n) (7 - i) % 256
def tailTo (k : Nat) : List Nat := 128 :: List.replicate k 0
/-- The bytes of a tail, as far as i of the last eight. -/
def tailL (n i : Nat) : List Nat := tailTo (noughts n) ++ (List.range i).map (bitByte n)
def tailOf (n : Nat) : List Nat := tailL n 8

theorem noughts_lt (n : Nat) : noughts n < 64 := Nat.mod_lt _ (by decide)
theorem tailL_length (n i : Nat) : (tailL n i).length = noughts n + 1 + i := by simp [tailL, tailTo]; omega
theorem tailOf_length (n : Nat) : (tailOf n).length = noughts n + 9 := by rw [tailOf, tailL_length]
theorem tailL_succ (n i : Nat) : u8s (tailL n (i + 1)) = u8s (tailL n i) ++ [.int .u8 (bitByte n i)] := by
  simp [tailL, u8s, List.range_succ]
theorem tailTo_succ (k : Nat) : u8s (tailTo (k + 1)) = u8s (tailTo k) ++ [.int .u8 0] := by
  simp [tailTo, u8s, List.replicate_succ']

theorem elByte : ElemOk Tryd.prog 24 5 (.int .u8 0) 1 1 := ⟨Tryd.underlying24, by kernel_rfl, rfl, by decide⟩

theorem byte_turn {w : World} {B e size n c : Nat} {A : Option Addr} {l : List Value} {x y : Int} (h : Own w B e size A n c (l ++ #[Value.int .u8 x].toList)) (hxy : x = y) : Own w B e size A n c (l ++ [.int .u8 y]) := by
  subst hxy
  exact h
theorem pow_turn (k : Nat) : (2 : Nat) ^ (8 * k) = 256 ^ k := Nat.pow_mul 2 8 k
theorem bits_nat (n : Nat) : IntKind.u64.wrap ((n : Int) * 8) = (bitLen n : Nat) := by
  rw [IntKind.wrap_u64]
  unfold bitLen
  omega
theorem bitLen_lt (n : Nat) : bitLen n < 18446744073709551616 := Nat.mod_lt _ (by decide)
theorem dv_lt {T : Nat} (h : T < 18446744073709551616) (i : Nat) : dv T i < 18446744073709551616 := Nat.lt_of_le_of_lt (Nat.div_le_self _ _) h
theorem dv_zero (T : Nat) : dv T 0 = T := by simp [dv]
theorem dv_succ (T i : Nat) : (dv T i : Int) / 256 = (dv T (i + 1) : Nat) := by
  have h2 : dv T (i + 1) = dv T i / 256 := by unfold dv; rw [Nat.pow_succ, ← Nat.div_div_eq_div_mul]
  rw [h2]
  omega
theorem bit_shr (n k : Nat) (hk : k < 8) : (bitLen n : Int) / 2 ^ (56 - 8 * k) % 256 = bitByte n k := by
  have h1 : 56 - 8 * k = 8 * (7 - k) := by omega
  have h2 : ((2 : Int) ^ (8 * (7 - k))) = ((2 ^ (8 * (7 - k)) : Nat) : Int) := by rw [Int.natCast_pow]; rfl
  rw [h1, h2]
  unfold bitByte dv
  rw [← pow_turn]
  omega

set_option maxRecDepth 20000 in
set_option maxHeartbeats 1000000 in
theorem tail_any (n : Nat) (w : World) (hn : n < 18446744073709551616) :
    Calls Tryd.prog 107 #[.int .u64 n] w fun e w' => (∃ A c, e = .returned (.slice A (noughts n + 9) c) ∧ Own w' w.heap.size 5 1 A (noughts n + 9) c (u8s (tailOf n))) ∧ Below w.heap.size w w' := by
  have hz := noughts_lt n
  have hz2 : ((128 - ((n : Int) % 64 + 1 + 8)) % 64) = noughts n := by unfold noughts; omega
  go_enter Tryd.func107, Tryd.ntmps107
  go_wp2_with (at_make; refine wpList_mk elByte w rfl _ _ rfl rfl rfl (noughts n + 1) (noughts n + 9) (by omega) (by omega) (by omega) (by omega) (by unfold maxLen; omega) (Nat.le_refl _) ?_; intro w1 hown1 hg1 hb1 hs1; rw [made_one _ rfl] at hown1; have hf := hown1.frozen 0; have hc := hown1.cell 0 (by omega); rw [List.replicate_succ, List.getElem?_cons_zero] at hc)
  have hown2 := hown1.set 0 (.int .u8 128)
  have hb2 : Below w.heap.size w (w1.setCell ⟨w.heap.size, 0, none⟩ (.int .u8 128)) := hb1.trans (grown_below (hown1.set_grown 0 (.int .u8 128)) (by omega) (by intro k hk; cases hk; exact Nat.le_refl _))
  have hl : (List.replicate (noughts n + 1) (Value.int .u8 0)).set 0 (.int .u8 128) = u8s (tailL n 0) := by simp [List.replicate_succ, tailL, tailTo, u8s]
  rw [hl] at hown2
  clear hl hf hc hown1 hb1
  rw [bits_nat]
  go_loopw [5, 26] (fun s i wr => ∃ (k : Nat) (A : Option Addr) (c : Nat), k ≤ 8 ∧ i = .int .i64 k ∧ s = .slice A (noughts n + 1 + k) c ∧ Own wr w.heap.size 5 1 A (noughts n + 1 + k) c (u8s (tailL n k)) ∧ Below w.heap.size w wr) (fun _ i _ => 8 - (intOf i).toNat)
  case atStart => exact ⟨0, _, _, by omega, rfl, rfl, hown2, hb2⟩
  case round =>
    obtain ⟨k, A, c, hk, rfl, rfl, hown, hbel⟩ := hrel
    by_cases hlt : k < 8
    · go_wp2_with (at_builtin; go_loud (refine wpList_app1 elByte _ #[_] rfl rfl _ _ rfl rfl hown rfl (by intro u hu; simp at hu; subst hu; rfl) (by unfold maxLen; omega) (by omega) hbel.size (noughts n + 1 + (k + 1)) rfl _ rfl ?_); intro A' c' w' hown' _ hb')
      go_roundw
      case rel => exact ⟨k + 1, A', c', by omega, by go_num, rfl, by rw [tailL_succ]; exact byte_turn hown' (bit_shr n k hlt), hbel.trans hb'⟩
      case measure => simp [intOf]; omega
    · obtain rfl : k = 8 := by omega
      go_wp2_with fail
      go_ret
      exact ⟨⟨A, c, rfl, hown⟩, hbel⟩

set_option maxRecDepth 20000 in
set_option maxHeartbeats 1000000 in
theorem refTail_any (n : Nat) (w : World) (hn : n < 18446744073709551616) :
    Calls Tryd.prog 55 #[.int .u64 n] w fun e w' => (∃ A c, e = .returned (.slice A (noughts n + 9) c) ∧ Own w' w.heap.size 5 1 A (noughts n + 9) c (u8s (tailOf n))) ∧ Below w.heap.size w w' := by
  have hz := noughts_lt n
  have hb0 : Below w.heap.size w (w.alloc (.cells #[.int .u8 128] 5)) := (Below.refl _ w).alloc (Nat.le_refl _) _
  have hown0 : Own (w.alloc (.cells #[.int .u8 128] 5)) w.heap.size 5 1 (some ⟨w.heap.size, 0, none⟩) 1 1 (u8s (tailTo 0)) := Own.lit w w.heap.size 5 1 1 #[.int .u8 128] rfl (by unfold maxLen; omega) (Nat.le_refl _)
  go_enter Tryd.func55, Tryd.ntmps55
  go_wp2_with fail
  go_loopw [3] (fun s wr => ∃ (k : Nat) (A : Option Addr) (c : Nat), k ≤ noughts n ∧ s = .slice A (k + 1) c ∧ Own wr w.heap.size 5 1 A (k + 1) c (u8s (tailTo k)) ∧ Below w.heap.size w wr) (fun s _ => noughts n + 1 - (match s with | .slice _ m _ => m | _ => 0))
  case atStart => exact ⟨0, _, _, by omega, rfl, hown0, hb0⟩
  case round =>
    clear hown0 hb0
    obtain ⟨k, A, c, hk, rfl, hown, hbel⟩ := hrel
    by_cases hlt : k < noughts n
    · have hne : ¬ ((n : Int) % 64 + (k + 1) + 8) % 64 = 0 := by unfold noughts at hlt hk; omega
      go_wp2_with (at_builtin; go_loud (refine wpList_app1 elByte _ #[_] rfl rfl _ _ rfl rfl hown rfl (by intro u hu; simp at hu; subst hu; rfl) (by unfold maxLen; omega) (by omega) hbel.size (k + 1 + 1) rfl _ rfl ?_); intro A' c' w' hown' _ hb')
      go_roundw
      case rel => exact ⟨k + 1, A', c', by omega, rfl, by rw [tailTo_succ]; exact hown', hbel.trans hb'⟩
      case measure => simp; omega
    · obtain rfl : k = noughts n := by omega
      have hne : ((n : Int) % 64 + (noughts n + 1) + 8) % 64 = 0 := by unfold noughts; omega
      go_wp2_with fail
      rw [bits_nat]
      go_loopw [3, 5] (fun s i wr => ∃ (k : Nat) (A : Option Addr) (c : Nat), k ≤ 8 ∧ i = .int .i64 (7 - k) ∧ s = .slice A (noughts n + 1 + k) c ∧ Own wr w.heap.size 5 1 A (noughts n + 1 + k) c (u8s (tailL n k)) ∧ Below w.heap.size w wr) (fun _ i _ => (1 + intOf i).toNat)
      case atStart => exact ⟨0, A, c, by omega, rfl, rfl, by simpa [tailL] using hown, hbel⟩
      case round =>
        clear hown hbel hk hlt hne
        obtain ⟨k, A, c, hk, rfl, rfl, hown, hbel⟩ := hrel
        by_cases hlt : k < 8
        · go_wp2_with fail
          have hbl := bitLen_lt n
          go_loop [6, 7] (fun v j => ∃ (i : Nat), i ≤ 7 - k ∧ j = .int .i64 i ∧ v = .int .u64 (dv (bitLen n) i : Nat)) (fun _ j => 8 - (intOf j).toNat)
          case atStart => exact ⟨0, by omega, rfl, by rw [dv_zero]⟩
          case round =>
            obtain ⟨i, hi, rfl, rfl⟩ := hrel
            have hdv := dv_lt hbl i
            by_cases hlt2 : i < 7 - k
            · go_wp2_with fail
              go_round
              case rel => exact ⟨i + 1, by omega, by go_num, by rw [dv_succ]⟩
              case measure => simp [intOf]; omega
            · obtain rfl : i = 7 - k := by omega
              go_wp2_with (at_builtin; go_loud (refine wpList_app1 elByte _ #[_] rfl rfl _ _ rfl rfl hown rfl (by intro u hu; simp at hu; subst hu; rfl) (by unfold maxLen; omega) (by omega) hbel.size (noughts n + 1 + (k + 1)) rfl _ rfl ?_); intro A' c' w' hown' _ hb')
              go_roundw
              case rel => exact ⟨k + 1, A', c', by omega, by go_num, rfl, by rw [tailL_succ]; exact byte_turn hown' rfl, hbel.trans hb'⟩
              case measure => simp [intOf]; omega
        · obtain rfl : k = 8 := by omega
          go_wp2_with fail
          go_ret
          exact ⟨⟨A, c, rfl, hown⟩, hbel⟩
end Go.Proofs.YtkjndgapejbgcaaDoor

namespace Go.Proofs.YtkjndgapejbgcaaDoor
open Go.RowKit

/-- Block number k of a list. -/
def blk (M : List Nat) (k : Nat) : List Nat := (M.drop (64 * k)).take 64
/-- The state behind k blocks. -/
def foldB (ks M : List Nat) : Nat → List Nat
  | 0 => startL
  | k + 1 => Sha.blockL ks (foldB ks M k) (blk M k)
theorem blockL_length (ks s b : List Nat) : (Sha.blockL ks s b).length = 8 := by simp [Sha.blockL]
theorem blockL_lt (ks s b : List Nat) : ∀ x ∈ Sha.blockL ks s b, x < 4294967296 := by
  intro x hx
  simp only [Sha.blockL, List.mem_map] at hx
  obtain ⟨j, _, rfl⟩ := hx
  exact Nat.mod_lt _ (by decide)
theorem foldB_length (ks M : List Nat) (k : Nat) : (foldB ks M k).length = 8 := by
  cases k with
  | zero => rfl
  | succ k => exact blockL_length _ _ _
theorem startL_lt : ∀ x ∈ startL, x < 4294967296 := by decide
theorem foldB_lt (ks M : List Nat) (k : Nat) : ∀ x ∈ foldB ks M k, x < 4294967296 := by
  cases k with
  | zero => exact startL_lt
  | succ k => exact blockL_lt _ _ _
theorem blk_length {M : List Nat} {k : Nat} (h : 64 * k + 64 ≤ M.length) : (blk M k).length = 64 := by simp [blk]; omega
theorem blk_append {m b : List Nat} {k : Nat} (h : 64 * k + 64 ≤ m.length) : blk (m ++ b) k = blk m k := by
  unfold blk
  rw [List.drop_append_of_le_length (by omega), List.take_append_of_le_length (by simp; omega)]
theorem blk_lt {M : List Nat} (h : ∀ x ∈ M, x < 256) (k : Nat) : ∀ x ∈ blk M k, x < 256 := fun x hx => h x (List.mem_of_mem_drop (List.mem_of_mem_take hx))
theorem foldB_append (ks : List Nat) {m b : List Nat} {k : Nat} (h : 64 * k ≤ m.length) : foldB ks (m ++ b) k = foldB ks m k := by
  induction k with
  | zero => rfl
  | succ k ih => rw [foldB, foldB, ih (by omega), blk_append (by omega)]
/-- All that is hashed: the bytes and the tail behind them. -/
def padded (m : List Nat) : List Nat := m ++ tailOf m.length
theorem padded_length (m : List Nat) : (padded m).length % 64 = 0 := by
  simp only [padded, List.length_append, tailOf_length, noughts]
  omega
/-- The bytes of eight words. -/
def wordBytes (st : List Nat) : List Nat := (List.range 32).map fun i => st[i / 4]?.getD 0 / 256 ^ (3 - i % 4) % 256
theorem wordBytes_length (st : List Nat) : (wordBytes st).length = 32 := by simp [wordBytes]
theorem wordBytes_lt (st : List Nat) : ∀ x ∈ wordBytes st, x < 256 := by
  intro x hx
  simp only [wordBytes, List.mem_map] at hx
  obtain ⟨j, _, rfl⟩ := hx
  exact Nat.mod_lt _ (by decide)
/-- The digest. -/
def digest (ks m : List Nat) : List Nat := wordBytes (foldB ks (padded m) ((padded m).length / 64))
theorem digest_length (ks m : List Nat) : (digest ks m).length = 32 := wordBytes_length _
theorem digest_lt (ks m : List Nat) : ∀ x ∈ digest ks m, x < 256 := wordBytes_lt _
theorem bitByte_lt (n i : Nat) : bitByte n i < 256 := Nat.mod_lt _ (by decide)
theorem tailOf_lt (n : Nat) : ∀ x ∈ tailOf n, x < 256 := by
  intro x hx
  simp only [tailOf, tailL, tailTo, List.mem_append, List.mem_cons, List.mem_map] at hx
  rcases hx with (rfl | h) | ⟨j, _, rfl⟩
  · decide
  · have := (List.mem_replicate.1 h).2
    omega
  · exact bitByte_lt _ _
theorem padded_lt {m : List Nat} (h : ∀ x ∈ m, x < 256) : ∀ x ∈ padded m, x < 256 := by
  intro x hx
  rcases List.mem_append.1 hx with h' | h'
  · exact h x h'
  · exact tailOf_lt _ x h'
/-- The bytes, i of them laid. -/
def bytesTo (st : List Nat) (i : Nat) : List Nat := (wordBytes st).take i ++ zerW (32 - i)
theorem bytesTo_length (st : List Nat) {i : Nat} (h : i ≤ 32) : (bytesTo st i).length = 32 := by simp [bytesTo, wordBytes_length, zerW]; omega
theorem bytesTo_all (st : List Nat) : bytesTo st 32 = wordBytes st := by
  have h : (wordBytes st).take 32 = wordBytes st := List.take_of_length_le (Nat.le_of_eq (wordBytes_length st))
  simp [bytesTo, zerW, h]
theorem bytesTo_set (st : List Nat) {i : Nat} (h : i < 32) : (bytesTo st i).set i (st[i / 4]?.getD 0 / 256 ^ (3 - i % 4) % 256) = bytesTo st (i + 1) := by
  unfold bytesTo zerW
  have hl := wordBytes_length st
  rw [List.set_append_right _ _ (by simp [hl]; omega), List.length_take, hl, Nat.min_eq_left (by omega), Nat.sub_self]
  obtain ⟨m, hm⟩ : ∃ m, 32 - i = m + 1 := ⟨31 - i, by omega⟩
  rw [hm, List.replicate_succ, show 32 - (i + 1) = m by omega, List.take_succ_eq_append_getElem (by omega), List.set_cons_zero, List.append_assoc]
  congr 2
  simp [wordBytes]
end Go.Proofs.YtkjndgapejbgcaaDoor

namespace Go.Proofs.YtkjndgapejbgcaaDoor
open Go.RowKit
set_option linter.unusedSimpArgs false

/-- The cells of a Hasher. -/
structure HR (w : World) (g o : Nat) (st rs : List Nat) (n : Nat) (bg : Bool) : Prop where
  cst : w.rangeAt g o (u32s st)
  crs : w.rangeAt g (o + 8) (u8s rs)
  cn : w.cell? ⟨g, o + 72, none⟩ = some (.int .u64 (n : Int))
  cb : w.cell? ⟨g, o + 73, none⟩ = some (.bool bg)
  fr : ∀ k, w.frozen? ⟨g, k, none⟩ = false
  l1 : st.length = 8
  l2 : rs.length = 64
section
variable {w w' : World} {g o n : Nat} {st rs : List Nat} {bg : Bool}
theorem HR.lt (h : HR w g o st rs n bg) : g < w.heap.size := World.block_lt_of_cell? w _ h.cn
theorem HR.keep (h : HR w g o st rs n bg) (hc : ∀ k, w'.cell? ⟨g, k, none⟩ = w.cell? ⟨g, k, none⟩) (hf : ∀ k, w'.frozen? ⟨g, k, none⟩ = w.frozen? ⟨g, k, none⟩) : HR w' g o st rs n bg :=
  ⟨fun j v hv => (hc _).trans (h.cst j v hv), fun j v hv => (hc _).trans (h.crs j v hv), (hc _).trans h.cn, (hc _).trans h.cb, fun k => (hf k).trans (h.fr k), h.l1, h.l2⟩
theorem HR.block (h : HR w g o st rs n bg) (hb : w'.heap[g]? = w.heap[g]?) : HR w' g o st rs n bg := h.keep (fun _ => World.cell?_of_block hb) (fun _ => World.frozen?_of_block hb)
theorem HR.below (h : HR w g o st rs n bg) (hb : Below w.heap.size w w') : HR w' g o st rs n bg := h.block (hb.block g h.lt)
theorem HR.drew (h : HR w g o st rs n bg) : HR w.drew g o st rs n bg := ⟨h.cst, h.crs, h.cn, h.cb, h.fr, h.l1, h.l2⟩
theorem HR.there1 (h : HR w g o st rs n bg) : w.there g o 8 := fun j hj => ⟨World.rangeAt.isSome h.cst j (by simp [u32s, h.l1]; exact hj), h.fr _⟩
theorem HR.there2 (h : HR w g o st rs n bg) {p k : Nat} (hp : p + k ≤ 64) : w.there g (o + 8 + p) k := fun j hj => ⟨by
  have := World.rangeAt.isSome h.crs (p + j) (by simp [u8s, h.l2]; omega)
  rwa [← Nat.add_assoc] at this, h.fr _⟩
theorem HR.setSt (h : HR w g o st rs n bg) {s' : List Nat} (hs : s'.length = 8) : HR (w.setCells g o (u32s s')) g o s' rs n bg where
  cst := World.rangeAt_setCells_same w g o _ (by rw [u32s_length, hs]; exact h.there1)
  crs := World.rangeAt_setCells_apart h.crs g o _ (.inr (.inr (by rw [u32s_length, hs]; exact Nat.le_refl _)))
  cn := (World.cell?_setCells_out g _ o w ⟨g, o + 72, none⟩ (fun _ _ => by rw [u32s_length, hs]; show o + 72 < o ∨ o + 8 ≤ o + 72; omega)).trans h.cn
  cb := (World.cell?_setCells_out g _ o w ⟨g, o + 73, none⟩ (fun _ _ => by rw [u32s_length, hs]; show o + 73 < o ∨ o + 8 ≤ o + 73; omega)).trans h.cb
  fr := fun k => (World.frozen?_setCells g _ o w _).trans (h.fr k)
  l1 := hs
  l2 := h.l2
theorem HR.setBg (h : HR w g o st rs n bg) (c : Bool) : HR (w.setCell ⟨g, o + 73, none⟩ (.bool c)) g o st rs n c where
  cst := World.rangeAt_setCells_apart h.cst g (o + 73) [.bool c] (.inr (.inl (by rw [u32s_length, h.l1]; omega)))
  crs := World.rangeAt_setCells_apart h.crs g (o + 73) [.bool c] (.inr (.inl (by simp [u8s, h.l2])))
  cn := (World.cell?_setCell_other w _ _ _ (by simp)).trans h.cn
  cb := World.cell?_setCell_same w _ _ h.cb
  fr := fun k => (World.frozen?_setCells g [.bool c] (o + 73) w _).trans (h.fr k)
  l1 := h.l1
  l2 := h.l2
theorem HR.setN (h : HR w g o st rs n bg) (c : Nat) : HR (w.setCell ⟨g, o + 72, none⟩ (.int .u64 (c : Int))) g o st rs c bg where
  cst := World.rangeAt_setCells_apart h.cst g (o + 72) [.int .u64 (c : Int)] (.inr (.inl (by rw [u32s_length, h.l1]; omega)))
  crs := World.rangeAt_setCells_apart h.crs g (o + 72) [.int .u64 (c : Int)] (.inr (.inl (by simp [u8s, h.l2])))
  cn := World.cell?_setCell_same w _ _ h.cn
  cb := (World.cell?_setCell_other w _ _ _ (by simp)).trans h.cb
  fr := fun k => (World.frozen?_setCells g [.int .u64 (c : Int)] (o + 72) w _).trans (h.fr k)
  l1 := h.l1
  l2 := h.l2
/-- Some bytes laid over others. -/
def laid (rs : List Nat) (p : Nat) (b : List Nat) : List Nat := rs.take p ++ (b ++ rs.drop (p + b.length))
theorem laid_length {rs b : List Nat} {p : Nat} (h : p + b.length ≤ rs.length) : (laid rs p b).length = rs.length := by simp [laid]; omega
theorem HR.setRs (h : HR w g o st rs n bg) {p : Nat} {b : List Nat} (hp : p + b.length ≤ 64) : HR (w.setCells g (o + 8 + p) (u8s b)) g o st (laid rs p b) n bg where
  cst := World.rangeAt_setCells_apart h.cst g _ _ (.inr (.inl (by rw [u32s_length, h.l1]; omega)))
  crs := by
    have hu : (u8s b).length = b.length := by simp [u8s]
    have hth := h.there2 hp
    intro j v hv
    have hj : j < 64 := by
      have := (List.getElem?_eq_some_iff.1 hv).1
      have e := laid_length (rs := rs) (b := b) (p := p) (by rw [h.l2]; exact hp)
      simpa [u8s, e, h.l2] using this
    by_cases h1 : p ≤ j ∧ j < p + b.length
    · obtain ⟨i, rfl⟩ : ∃ i, j = p + i := ⟨j - p, by omega⟩
      have := World.rangeAt_setCells_same w g (o + 8 + p) (u8s b) (by rw [hu]; exact hth) i v (by
        rw [← hv]
        have e : (laid rs p b)[p + i]? = b[i]? := by
          unfold laid
          rw [List.getElem?_append_right (by simp; omega), List.length_take, h.l2, Nat.min_eq_left (by omega), Nat.add_sub_cancel_left, List.getElem?_append_left (by omega)]
        simp only [u8s, List.getElem?_map, e])
      rwa [Nat.add_assoc (o + 8) p i] at this
    · rw [World.cell?_setCells_out g _ _ w ⟨g, o + 8 + j, none⟩ (fun _ _ => by rw [hu]; show o + 8 + j < o + 8 + p ∨ o + 8 + p + b.length ≤ o + 8 + j; omega)]
      refine h.crs j v ?_
      rw [← hv]
      have e : (laid rs p b)[j]? = rs[j]? := by
        unfold laid
        by_cases h2 : j < p
        · rw [List.getElem?_append_left (by simp [h.l2]; omega), List.getElem?_take, if_pos h2]
        · rw [List.getElem?_append_right (by simp [h.l2]; omega), List.length_take, h.l2, Nat.min_eq_left (by omega), List.getElem?_append_right (by omega), List.getElem?_drop]
          congr 1
          omega
      simp only [u8s, List.getElem?_map, e]
  cn := (World.cell?_setCells_out g _ _ w ⟨g, o + 72, none⟩ (fun _ _ => by simp only [u8s, List.length_map]; omega)).trans h.cn
  cb := (World.cell?_setCells_out g _ _ w ⟨g, o + 73, none⟩ (fun _ _ => by simp only [u8s, List.length_map]; omega)).trans h.cb
  fr := fun k => (World.frozen?_setCells g _ _ w _).trans (h.fr k)
  l1 := h.l1
  l2 := by rw [laid_length (by rw [h.l2]; exact hp), h.l2]
end

/-- The program's table. -/
def Tab (w : World) (ks : List Nat) : Prop := ∀ t, t < 64 → w.cell? ⟨4, t, none⟩ = some (.int .u32 ((ks[t]?.getD 0 : Nat) : Int))
theorem Tab.lt {w : World} {ks : List Nat} (h : Tab w ks) : 4 < w.heap.size := World.block_lt_of_cell? w _ (h 0 (by decide))
theorem Tab.below {w w' : World} {ks : List Nat} (h : Tab w ks) (hb : Below w.heap.size w w') : Tab w' ks := fun t ht => (hb.cell (p := ⟨4, t, none⟩) h.lt).trans (h t ht)
theorem Tab.chg {w w' : World} {ks : List Nat} {g o m : Nat} (h : Tab w ks) (hc : Chg w w' g o m) (hg : 4 ≠ g) : Tab w' ks := fun t ht => hc.far (p := ⟨4, t, none⟩) hg (h t ht)
theorem Tab.all {w : World} {ks : List Nat} (h : Tab w ks) : ∀ wr : World, Below w.heap.size w wr → ∀ t, t < 64 → wr.cell? ⟨4, t, none⟩ = some (.int .u32 ((ks[t]?.getD 0 : Nat) : Int)) := fun _ hb => h.below hb

set_option maxRecDepth 100000 in
theorem now_any (w : World) {g o n : Nat} {st rs : List Nat} {bg : Bool} (h : HR w g o st rs n bg) :
    Calls Tryd.prog 108 #[.pointer (some ⟨g, o, none⟩)] w fun e w' => e = .returned (.agg (u32s (if bg = true then st else startL)).toArray) ∧ Below w.heap.size w w' := by
  have hz := zero8
  have hi8 : (Tryd.prog.info? 89).map (·.size) = some 8 := by kernel_rfl
  have hi8' := Lib.hid hi8
  have h1 := h.below ((Below.refl _ _).alloc (Nat.le_refl _) (.cells (u32s (zerW 8)).toArray 89))
  have h1' := Lib.hid h1
  have hb := h1.cb
  have hszs : (u32s st).length = 8 := by rw [u32s_length]; exact h.l1
  have hszz : (u32s (zerW 8)).toArray.size = 8 := by simp [u32s, zerW]
  have hszs2 : (u32s st).toArray.size = 8 := by simpa using hszs
  have hszt : (u32s startL).toArray.size = 8 := rfl
  have hn := Lib.hid (heap_alloc_new w (.cells (u32s (zerW 8)).toArray 89))
  clear hi8 h1 h
  cases bg
  · go_enter Tryd.func108, Tryd.ntmps108
    go_wp2_with fail
    refine (start_any _).mono ?_
    rintro e w' ⟨rfl, hb'⟩
    have hn' := Lib.hid ((hb'.block w.heap.size (by simp)).trans hn.out)
    have hB : Below w.heap.size w w' := ((Below.refl w.heap.size w).alloc (Nat.le_refl _) _).trans (hb'.mono (by simp))
    have hB' := Lib.hid hB
    clear hB hb' hb
    go_wp2_with (first
      | (refine wpList_store_row rfl 89 _ _ rfl w.heap.size (u32s startL).toArray rfl rfl 89 _ hn'.out (by rw [hszt]; exact hi8'.out) (by rw [hszt, hszz]) (by simp [u32s, Value.oneCell']) ?_))
    have hset := setRow_heap _ w.heap.size _ (u32s startL).toArray 89 _ hn'.out
    exact bodyPost_ret (results_cell_row rfl _ _ w.heap.size 89 (u32s startL).toArray (0, 0) _ rfl hset Tryd.underlying89 rfl (by rw [hszt]; exact hi8'.out)) rfl ⟨rfl, setRow_belS hB'.out (Nat.le_refl _) _⟩
  · go_enter Tryd.func108, Tryd.ntmps108
    go_wp2_with (first
      | (refine wpList_load_mid rfl 89 _ rfl g o rfl (u32s st) _ h1'.out.cst Tryd.underlying89 rfl (by rw [hszs]; exact hi8'.out) ?_)
      | (refine wpList_store_row rfl 89 _ _ rfl w.heap.size (u32s st).toArray rfl rfl 89 _ hn.out (by rw [hszs2]; exact hi8'.out) (by rw [hszs2, hszz]) (by simp [u32s, Value.oneCell']) ?_))
    have hset := setRow_heap _ w.heap.size _ (u32s st).toArray 89 _ hn.out
    exact bodyPost_ret (results_cell_row rfl _ _ w.heap.size 89 (u32s st).toArray (0, 0) _ rfl hset Tryd.underlying89 rfl (by rw [hszs2]; exact hi8'.out)) rfl ⟨rfl, setRow_belS ((Below.refl _ _).alloc (Nat.le_refl _) _) (Nat.le_refl _) _⟩
end Go.Proofs.YtkjndgapejbgcaaDoor

namespace Go.Proofs.YtkjndgapejbgcaaDoor
open Go.RowKit
set_option linter.unusedSimpArgs false

set_option maxRecDepth 100000 in
theorem take_any (w : World) {g o n : Nat} {st rs : List Nat} {bg : Bool} (ks b s0 : List Nat) (hs0 : (if bg = true then st else startL) = s0) (h : HR w g o st rs n bg) (hT : Tab w ks) (hk : ks.length = 64) (hkl : ∀ x ∈ ks, x < 4294967296)
    (hs0n : s0.length = 8) (hs0l : ∀ x ∈ s0, x < 4294967296) (hb : ∀ x ∈ b, x < 256) (hn : b.length = 64) :
    Calls Tryd.prog 106 #[.pointer (some ⟨g, o, none⟩), .agg (u8s b).toArray] w fun e w' => (∃ v, e = .returned v) ∧ HR w' g o (Sha.blockL ks s0 b) rs n true ∧ Chg w w' g o 74 := by
  have hi8 : (Tryd.prog.info? 89).map (·.size) = some 8 := by kernel_rfl
  have hi64 : (Tryd.prog.info? 118).map (·.size) = some 64 := by kernel_rfl
  have hi8' := Lib.hid hi8
  have hi64' := Lib.hid hi64
  have hszb : (u8s b).length = 64 := by simp [u8s, hn]
  have hB0 : Below w.heap.size w (w.alloc (.cells (u8s b).toArray 118)) := (Below.refl _ _).alloc (Nat.le_refl _) _
  have h1 := h.below hB0
  have hT1 := hT.below hB0
  have hbx : (w.alloc (.cells (u8s b).toArray 118)).rangeAt w.heap.size 0 (u8s b) := fun j v hv => by
    rw [Nat.zero_add, cell_of_row _ _ _ _ _ _ (heap_alloc_new w _)]
    simpa using hv
  have hgw : g ≠ w.heap.size := Nat.ne_of_lt h.lt
  have hC : Chg w (w.alloc (.cells (u8s b).toArray 118)) g o 74 := Chg.of_below hB0 h.lt
  have h1' := Lib.hid h1
  have hT1' := Lib.hid hT1
  have hbx' := Lib.hid hbx
  have hC' := Lib.hid hC
  have hL : ∃ L, Hid (∀ _ : Unit, Sha.blockL ks s0 b = L) := ⟨_, Lib.hid fun _ => rfl⟩
  obtain ⟨L, hL⟩ := hL
  have hLn : L.length = 8 := by rw [← hL.out ()]; exact blockL_length _ _ _
  have hLs : (u32s L).length = 8 := by rw [u32s_length]; exact hLn
  have cN : Hid (∀ W : World, HR W g o st rs n bg → Calls Tryd.prog 108 #[.pointer (some ⟨g, o, none⟩)] W fun e w' => e = .returned (.agg (u32s s0).toArray) ∧ Below W.heap.size W w') := Lib.hid fun W hW => by
    rw [← hs0]; exact now_any W hW
  have cB : Hid (∀ W : World, Tab W ks → Calls Tryd.prog 115 #[.agg (u32s s0).toArray, .agg (u8s b).toArray] W fun e w' => e = .returned (.agg (u32s L).toArray) ∧ Below W.heap.size W w') := Lib.hid fun W hW => by
    rw [← hL.out ()]; exact block_any s0 b ks W hs0n hs0l hb hn hk hkl hW.all
  clear hi8 hi64 hB0 h1 hT1 hbx hC h hT hs0 hs0n hs0l hb hn hk hkl
  go_enter Tryd.func106, Tryd.ntmps106
  go_wp2_with fail
  generalize (w.alloc (.cells (u8s b).toArray 118)) = w1 at h1' hT1' hbx' hC' ⊢
  refine wp_region_held (S := fun W => W.rangeAt w.heap.size 0 (u8s b)) (by kernel_rfl) ?_
  change wpAnyH _ _ _ _ _ _ _ _ (World.drew _)
  have hd : w1.drew.rangeAt w.heap.size 0 (u8s b) := hbx'.out
  refine wpAnyH_take (i := 0) (v := .pointer (some ⟨g, o, none⟩)) rfl (by kernel_rfl) (by kernel_rfl) (by kernel_rfl) (fun _ _ _ h => h) (Or.inl ⟨by rfl, by intro W _; go_simp⟩) hd ?_
  refine wpAnyH_take (i := 1) (v := .pointer (some ⟨g, o, none⟩)) rfl (by kernel_rfl) (by kernel_rfl) (by kernel_rfl) (fun _ _ _ h => h) (Or.inl ⟨by rfl, by intro W _; go_simp⟩) hd ?_
  refine wpAnyH_take (i := 3) rfl (by kernel_rfl) (by kernel_rfl) (by kernel_rfl) (fun _ _ _ h => h) (yieldsIf_load_mid (by rfl) 118 _ rfl w.heap.size 0 rfl (u8s b) _ (fun _ h => h) Tryd.underlying118 rfl (by rw [hszb]; exact hi64'.out)) hd ?_
  simp only [Act.put, List.setIfInBounds_toArray, List.set_cons_zero, List.set_cons_succ]
  refine wpAnyH_ready (rs := [2]) (by kernel_rfl) (by simp) ?_
  refine AllReadyH.cons rfl (fun K hK => ?_) AllReadyH.nil
  go_simp
  go_wp2_with (go_at_call 108; refine (cN.out _ h1'.out.drew).mono ?_; rintro e w2 ⟨rfl, hb2⟩; skip)
  have hB2 : Below w1.heap.size w1 w2 := (Below.refl _ _).drew.trans hb2
  have hx2 : w2.rangeAt w.heap.size 0 (u8s b) := fun j v hv => by
    have := hbx'.out j v hv
    rw [hB2.cell (World.block_lt_of_cell? w1 _ this)]
    exact this
  have h2' := Lib.hid (h1'.out.below hB2)
  have hT2' := Lib.hid (hT1'.out.below hB2)
  have hC2' := Lib.hid (hC'.out.trans (Chg.of_below hB2 h1'.out.lt))
  refine hK.out _ _ hx2 (fun _ => ?_)
  clear hK K hB2 hb2 hd
  refine wpAnyH_ready (rs := [4]) (by kernel_rfl) (by simp) ?_
  refine AllReadyH.cons rfl (fun K hK => ?_) AllReadyH.nil
  go_simp
  go_wp2_with (go_at_call 115; refine (cB.out _ hT2'.out).mono ?_; rintro e w3 ⟨rfl, hb3⟩; skip)
  have hx3 : w3.rangeAt w.heap.size 0 (u8s b) := fun j v hv => by
    have := hx2 j v hv
    rw [hb3.cell (World.block_lt_of_cell? w2 _ this)]
    exact this
  have h3' := Lib.hid (h2'.out.below hb3)
  have hC3' := Lib.hid (hC2'.out.trans (Chg.of_below hb3 h2'.out.lt))
  refine hK.out _ _ hx3 (fun _ => ?_)
  clear hK K hb3
  refine wpAnyH_ready (rs := [5]) (by kernel_rfl) (by simp) ?_
  refine AllReadyH.cons rfl (fun K hK => ?_) AllReadyH.nil
  go_simp
  refine hK.out _ _ hx3 (fun _ => ?_)
  clear hK K
  refine wpAnyH_ready (rs := [6]) (by kernel_rfl) (by simp) ?_
  refine AllReadyH.cons rfl (fun K hK => ?_) AllReadyH.nil
  go_simp
  refine hK.out _ _ hx3 (fun _ => ?_)
  clear hK K
  refine wpAnyH_ready (rs := [7]) (by kernel_rfl) (by simp) ?_
  refine AllReadyH.cons rfl (fun K hK => ?_) AllReadyH.nil
  rw [if_pos (by rfl)]
  refine wp_store_mid 89 _ _ rfl g o (u32s L).toArray rfl rfl (by rw [List.size_toArray, hLs]; exact h3'.out.there1) (by rw [List.size_toArray, hLs]; exact hi8'.out) (by simp [u32s, Value.oneCell']) ?_
  have h4 := h3'.out.setSt hLn
  have hC4 : Chg w (w3.setCells g o (u32s L)) g o 74 := hC3'.out.trans (Chg.cells w3 g (Nat.le_refl _) (by rw [hLs]; omega))
  have hx4 : (w3.setCells g o (u32s L)).rangeAt w.heap.size 0 (u8s b) := World.rangeAt_setCells_apart hx3 g o _ (.inl (Ne.symm hgw))
  have h4' := Lib.hid h4
  have hC4' := Lib.hid hC4
  refine hK.out _ _ hx4 (fun _ => ?_)
  clear hK K h4 hC4 hx4 hx3 h3' hC3' hx2 h2' hT2' hC2'
  refine wpAnyH_done (by kernel_rfl) ?_ _
  have hc := h4'.out.cb
  have hf := h4'.out.fr (o + 73)
  go_wp2_with fail
  go_end0
  refine ⟨⟨_, rfl⟩, ?_, hC4'.out.trans (Chg.cell1 _ g (by omega) (by omega))⟩
  rw [hL.out ()]
  exact h4'.out.setBg true
end Go.Proofs.YtkjndgapejbgcaaDoor

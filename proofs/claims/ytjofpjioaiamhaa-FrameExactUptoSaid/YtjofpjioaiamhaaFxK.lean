/- FrameExact: the document's Pack. -/
import Derived.Test.YtjofpjioaiamhaaFxM
namespace Go.Proofs.Ytjofpjioaiamhaa
open Go.RowKit

def shr8 (s : Nat) : Nat → Nat
  | 0 => s
  | i + 1 => shr8 s i / 256
theorem shr8_lt {s : Nat} (h : s < 4294967296) : ∀ i, shr8 s i < 4294967296
  | 0 => h
  | i + 1 => by have := shr8_lt h i; simp only [shr8]; omega
theorem sum4_take {s i : Nat} (h : s < 4294967296) (hi : i < 4) : (sum4 s).take (i + 1) = (sum4 s).take i ++ [shr8 s i % 256] := by
  rcases (show i = 0 ∨ i = 1 ∨ i = 2 ∨ i = 3 by omega) with rfl | rfl | rfl | rfl <;> simp [sum4, shr8] <;> omega
theorem u32_and255 {x : Nat} (h : x < 4294967296) : bits .and .u32 (x : Int) 255 = ((x % 256 : Nat) : Int) := by
  have h1 := u32_and_nat x 255 h (by omega)
  rw [Nat.and_two_pow_sub_one_eq_mod x 8] at h1
  exact h1
theorem u8s_snoc (l : List Nat) (x : Nat) : u8s l ++ [.int .u8 (x : Int)] = u8s (l ++ [x]) := by simp [u8s]

set_option maxRecDepth 20000 in
set_option maxHeartbeats 1000000 in
theorem pack2_any (l : List Nat) (A : Option Addr) (n c B : Nat) (w : World) (hl : ∀ b ∈ l, b < 256) (hn : l.length = n) (hnm : n ≤ 140737488351232) (hB : B ≤ w.heap.size) (h : Byt w B A l) :
    Calls Try.prog 30 #[.slice A n c] w fun e w' => ((∃ A' c', e = .returned (.tuple #[.slice A' (n + 10) c', .int .i64 0]) ∧ Own w' w.heap.size 5 1 A' (n + 10) c' (u8s (recL l)) ∧ n ≤ 65526) ∨ (e = .returned (.tuple #[.slice none 0 0, .int .i64 60]) ∧ 65526 < n)) ∧ Below w.heap.size w w' := by
  have hl' := Lib.hid hl
  have hn' := Lib.hid hn
  have h' := Lib.hid h
  clear hl hn h
  by_cases hbig : 65526 < n
  · go_enter Try.func30, Try.ntmps30
    go_wp2_with fail
    go_ret2
    exact ⟨.inr ⟨rfl, hbig⟩, Below.refl _ _⟩
  · go_enter Try.func30, Try.ntmps30
    go_wp2_with fail
    refine (head2_any n w (by omega)).mono ?_
    rintro e w1 ⟨⟨g1, rfl, o1⟩, hb1⟩
    go_wp2_with fail
    refine (crc2_any (headL n) _ 6 6 w1.heap.size w1 (headL_bytes (n := n) (by omega)) rfl (by omega) o1.byt).mono ?_
    rintro e w2 ⟨rfl, rfl⟩
    go_wp2_with fail
    refine (more2_any _ l A n c B w2 (Crc.more_lt _ _) hl'.out hn'.out (by omega) (h'.out.below (hb1.mono hB))).mono ?_
    rintro e w3 ⟨rfl, rfl⟩
    rw [Crc.more_append (headL_bytes (n := n) (by omega))]
    have hs : recSum l = Crc.more 0 (headL n ++ l) := by rw [← hn'.out]; rfl
    have hslt : Crc.more 0 (headL n ++ l) < 4294967296 := Crc.more_lt _ _
    have hs' := Lib.hid hs
    have hb1' := Lib.hid hb1
    have o1' := Lib.hid o1
    clear hs hb1 o1
    generalize Crc.more 0 (headL n ++ l) = S at hs' hslt ⊢
    go_wp2_with fail
    go_loopw [4, 5, 6] (fun s v i wr => ∃ (k : Nat) (A : Option Addr) (c : Nat), k ≤ 4 ∧ i = .int .i64 k ∧ v = .int .u32 (shr8 S k : Nat) ∧ s = .slice A (6 + k) c ∧ Hid (Own wr w.heap.size 5 1 A (6 + k) c (u8s (headL n ++ (sum4 S).take k))) ∧ Hid (Below w.heap.size w wr)) (fun _ _ i _ => 4 - (intOf i).toNat)
    case atStart => exact ⟨0, some ⟨g1, 0, none⟩, 6, by omega, rfl, rfl, rfl, Lib.hid (by simpa using o1'.out), hb1'⟩
    case round =>
      clear o1' hb1'
      obtain ⟨k, A3, c3, hk, rfl, rfl, rfl, ho, hbel⟩ := hrel
      by_cases hlt : k < 4
      · have hz := shr8_lt hslt k
        have ht := Lib.hid (sum4_take hslt hlt)
        have hsh : Hid (∀ _ : Unit, shr8 S (k + 1) = shr8 S k / 256) := Lib.hid fun _ => rfl
        have hown := ho.out
        generalize shr8 S k = Z at hz ht hsh
        have e1 := u32_and255 hz
        obtain ⟨v, hv⟩ : ∃ v : Nat, Z % 256 = v := ⟨_, rfl⟩
        rw [hv] at e1 ht
        have hv2 : v < 256 := by omega
        clear hv
        go_wp2_with (at_builtin; refine wpList_app1 elB _ #[_] rfl rfl _ _ rfl rfl hown rfl (by intro u hu; simp at hu; subst hu; rfl) (by unfold maxLen; omega) (by omega) hbel.out.size (6 + (k + 1)) rfl _ rfl ?_; intro A' c' w' hown' _ hb')
        go_roundw
        case rel => exact ⟨k + 1, A', c', by omega, by go_num, by rw [hsh.out ()]; go_num, rfl, Lib.hid (by rw [ht.out, ← List.append_assoc, ← u8s_snoc]; exact hown'), Lib.hid (hbel.out.trans hb')⟩
        case measure => simp [intOf]; omega
      · obtain rfl : k = 4 := by omega
        obtain ⟨HS, hHS⟩ : ∃ HS, Hid (∀ _ : Unit, headL n ++ sum4 S = HS) := ⟨_, Lib.hid fun _ => rfl⟩
        have e4 : u8s (headL n ++ (sum4 S).take 4) = u8s (HS ++ l.take 0) := by rw [← hHS.out ()]; simp [sum4]
        have o4 := ho.out
        rw [e4] at o4
        have o4' := Lib.hid o4
        clear o4 e4 ho
        go_wp2_with fail
        go_loopw [4, 7] (fun s i wr => ∃ (j : Nat) (A : Option Addr) (c : Nat), j ≤ n ∧ i = .int .i64 j ∧ s = .slice A (10 + j) c ∧ Hid (Own wr w.heap.size 5 1 A (10 + j) c (u8s (HS ++ l.take j))) ∧ Hid (Below w.heap.size w wr)) (fun _ i _ => n - (intOf i).toNat)
        case atStart => exact ⟨0, A3, c3, by omega, rfl, rfl, o4', hbel⟩
        case round =>
          clear o4' hbel hlt hk
          obtain ⟨j, A4, c4, hj, rfl, rfl, ho, hbel⟩ := hrel
          by_cases hlt : j < n
          · obtain ⟨b, off, rfl, _, q⟩ := Rd.get (Rd.below h'.out (hbel.out.mono hB)) (by rw [hn'.out]; exact hlt)
            have hown := ho.out
            go_wp2_with (at_builtin; refine wpList_app1 elB _ #[_] rfl rfl _ _ rfl rfl hown rfl (by intro u hu; simp at hu; subst hu; rfl) (by unfold maxLen; omega) (by omega) hbel.out.size (10 + (j + 1)) rfl _ rfl ?_; intro A' c' w' hown' _ hb')
            go_roundw
            case rel => exact ⟨j + 1, by omega, by go_num, A', c', ⟨rfl, rfl, rfl⟩, Lib.hid (by rw [← u8s_one_more (by rw [hn'.out]; exact hlt)]; exact hown'), Lib.hid (hbel.out.trans hb')⟩
            case measure => simp [intOf]; omega
          · obtain rfl : j = n := by omega
            go_wp2_with fail
            go_ret2
            refine ⟨.inl ⟨A4, c4, by rw [Nat.add_comm]; rfl, ?_, by omega⟩, hbel.out⟩
            have h9 := ho.out
            rw [show l.take j = l by rw [← hn'.out, List.take_length], Nat.add_comm 10 j] at h9
            have e : recL l = headL j ++ sum4 S ++ l := by rw [recL, hs'.out, hn'.out]
            rw [e, hHS.out ()]
            exact h9
end Go.Proofs.Ytjofpjioaiamhaa

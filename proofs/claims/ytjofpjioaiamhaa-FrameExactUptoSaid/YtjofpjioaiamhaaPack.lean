/- frame.head, Pack, Unpack: what they answer. -/
import Derived.Test.YtjofpjioaiamhaaMore
namespace Go.Proofs.Ytjofpjioaiamhaa
open Go.RowKit

def headL (n : Nat) : List Nat := [199, n % 256, n / 256, (65535 - n) % 256, (65535 - n) / 256, 1]
def sum4 (s : Nat) : List Nat := [s % 256, s / 256 % 256, s / 65536 % 256, s / 16777216]
def recSum (l : List Nat) : Nat := Crc.more 0 (headL l.length ++ l)
/-- A record. -/
def recL (l : List Nat) : List Nat := headL l.length ++ sum4 (recSum l) ++ l
theorem headL_bytes {n : Nat} (hn : n ≤ 65535) : ∀ b ∈ headL n, b < 256 := by
  intro b hb
  simp only [headL, List.mem_cons, List.not_mem_nil, or_false] at hb
  omega
theorem sum4_bytes {s : Nat} (hs : s < 4294967296) : ∀ b ∈ sum4 s, b < 256 := by
  intro b hb
  simp only [sum4, List.mem_cons, List.not_mem_nil, or_false] at hb
  have := hs
  omega

theorem sum4_u8 (s : Nat) : u8s (sum4 s) = [.int .u8 ((s : Int) % 256), .int .u8 ((s : Int) / 256 % 256), .int .u8 ((s : Int) / 65536 % 256), .int .u8 ((s : Int) / 16777216)] := by
  simp only [u8s, sum4, List.map_cons, List.map_nil, List.cons.injEq, Value.int.injEq, true_and, and_true]
  omega

set_option maxRecDepth 20000 in
theorem head_any (n : Nat) (w : World) (hn : n ≤ 65535) :
    Calls Try.prog 25 #[.int .i64 n] w fun e w' => (∃ g, e = .returned (.slice (some ⟨g, 0, none⟩) 6 6) ∧ Own w' w.heap.size 5 1 (some ⟨g, 0, none⟩) 6 6 (u8s (headL n))) ∧ Below w.heap.size w w' := by
  go_enter Try.func25, Try.ntmps25
  go_wp2
  go_ret
  have hB : Below w.heap.size w (w.alloc (.cells #[.int .u8 199, .int .u8 ((n : Int) % 256), .int .u8 ((n : Int) / 256), .int .u8 ((65535 - (n : Int)) % 256), .int .u8 ((65535 - (n : Int)) / 256), .int .u8 1] 5)) := (Below.refl _ w).alloc (Nat.le_refl _) _
  have ho := Own.lit w w.heap.size 5 1 6 #[.int .u8 199, .int .u8 ((n : Int) % 256), .int .u8 ((n : Int) / 256), .int .u8 ((65535 - (n : Int)) % 256), .int .u8 ((65535 - (n : Int)) / 256), .int .u8 1] rfl (by unfold maxLen; omega) (Nat.le_refl _)
  refine ⟨⟨w.heap.size, rfl, ?_⟩, hB⟩
  have e : u8s (headL n) = [.int .u8 199, .int .u8 ((n : Int) % 256), .int .u8 ((n : Int) / 256), .int .u8 ((65535 - (n : Int)) % 256), .int .u8 ((65535 - (n : Int)) / 256), .int .u8 1] := by
    simp only [u8s, headL, List.map_cons, List.map_nil, List.cons.injEq, Value.int.injEq, true_and, and_true]
    omega
  rw [e]
  exact ho

set_option maxRecDepth 20000 in
set_option maxHeartbeats 1000000 in
theorem pack_any (l : List Nat) (A : Option Addr) (n c B : Nat) (w : World) (hl : ∀ b ∈ l, b < 256) (hn : l.length = n) (hnm : n ≤ 140737488351232) (hB : B ≤ w.heap.size) (h : Byt w B A l) :
    Calls Try.prog 12 #[.slice A n c] w fun e w' => ((∃ A' c', e = .returned (.tuple #[.slice A' (n + 10) c', .int .i64 0]) ∧ Own w' w.heap.size 5 1 A' (n + 10) c' (u8s (recL l)) ∧ n ≤ 65526) ∨ (e = .returned (.tuple #[.slice none 0 0, .int .i64 60]) ∧ 65526 < n)) ∧ Below w.heap.size w w' := by
  have hl' := Lib.hid hl
  have hn' := Lib.hid hn
  have h' := Lib.hid h
  clear hl hn h
  by_cases hbig : 65526 < n
  · go_enter Try.func12, Try.ntmps12
    go_wp2_with fail
    go_ret2
    exact ⟨.inr ⟨rfl, hbig⟩, Below.refl _ _⟩
  · go_enter Try.func12, Try.ntmps12
    go_wp2_with fail
    refine (head_any n w (by omega)).mono ?_
    rintro e w1 ⟨⟨g1, rfl, o1⟩, hb1⟩
    go_wp2_with fail
    refine (crc_any (headL n) _ 6 6 w1.heap.size w1 (headL_bytes (n := n) (by omega)) rfl (by omega) (Nat.le_refl _) o1.byt).mono ?_
    rintro e w2 ⟨rfl, hb2⟩
    have hB2 := hb1.trans (hb2.mono hb1.size)
    have o2 := o1.below hb2 (fun k hk => (o1.lt k hk).2)
    clear o1
    go_wp2_with fail
    refine (more_any _ l A n c B w2 (Crc.more_lt _ _) hl'.out hn'.out (by omega) (Nat.le_trans hB hB2.size) (h'.out.below (hB2.mono hB))).mono ?_
    rintro e w3 ⟨rfl, hb3⟩
    rw [Crc.more_append (headL_bytes (n := n) (by omega))]
    have hB3 := hB2.trans (hb3.mono hB2.size)
    have o3 := o2.below hb3 (fun k hk => (o2.lt k hk).2)
    have hs : recSum l = Crc.more 0 (headL n ++ l) := by rw [← hn'.out]; rfl
    have hslt : Crc.more 0 (headL n ++ l) < 4294967296 := Crc.more_lt _ _
    have hs' := Lib.hid hs
    clear o2 hb1 hb2 hb3 hB2 hs
    generalize Crc.more 0 (headL n ++ l) = S at hs' hslt ⊢
    go_wp2_with (first
      | (at_builtin; refine wpList_appm elB w3 4 #[_, _, _, _] rfl rfl _ _ rfl rfl o3 rfl (by intro u hu; simp at hu; rcases hu with rfl | rfl | rfl | rfl <;> rfl) (by unfold maxLen; omega) (by omega) hB3.size 10 rfl (u8s (headL n ++ sum4 S)) (by rw [u8s_append, sum4_u8 S]) ?_; intro A4 c4 w4 o4 _ hb4; have hB4 := hB3.trans hb4; have hr4 : Rd w4 B A (n * 1) (fun j => .int .u8 ((l[j]?.getD 0 : Nat) : Int)) := (by rw [Nat.mul_one, ← hn'.out]; exact h'.out.below (hB4.mono hB)); clear h' hb4)
      | (at_builtin; refine wpList_app elB w4 rfl _ _ rfl rfl o4 rfl hr4 (fun _ _ => rfl) (by unfold maxLen; omega) (by omega) hB4.size (n + 10) (by omega) _ rfl ?_; intro A5 c5 w5 o5 _ hb5))
    go_ret2
    have hB5 := hB4.trans hb5
    rw [u8s_app hn'.out.symm] at o5
    have e : recL l = headL n ++ sum4 S ++ l := by rw [recL, hs'.out, hn'.out]
    rw [← e] at o5
    exact ⟨.inl ⟨A5, c5, rfl, o5, by omega⟩, hB5⟩
end Go.Proofs.Ytjofpjioaiamhaa

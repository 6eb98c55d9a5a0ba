/- lives: bytes are cut at all; two lists of lengths alike; a list that holds one number. -/
import Derived.Test.YtnjbpacnmiimlaaDoorGearC
import Derived.Test.YtnjbpacnmiimlaaDoorGLeft
namespace Go.Proofs.YtnjbpacnmiimlaaDoor
open Go.RowKit

/-- n numbers from address A on. -/
abbrev Is (w : World) (B : Nat) (A : Option Addr) (n : Nat) (g : Nat → Int) : Prop := Rd w B A n (fun j => .int .i64 (g j))
theorem Own.is {w : World} {B e n c : Nat} {A : Option Addr} {l : List Nat} (h : Own w B e 1 A n c (i64s l)) (hl : l.length = n) : Is w w.heap.size A n (fun j => ((l[j]?.getD 0 : Nat) : Int)) := by
  subst hl
  exact h.nts

set_option maxHeartbeats 1000000 in
theorem ints_eq (A1 A2 : Option Addr) (c1 c2 n : Nat) (g : Nat → Int) (B1 B2 : Nat) (w : World) (hn : n ≤ 4611686018427387904) (h1 : Is w B1 A1 n g) (h2 : Is w B2 A2 n g) :
    Calls Tryd.prog 13 #[.slice A1 n c1, .slice A2 n c2] w fun e w' => e = .returned (.bool true) ∧ ∃ m, w' = w.drewN m := by
  have H1 := Lib.hid h1
  have H2 := Lib.hid h2
  clear h1 h2
  go_enter Tryd.func13, Tryd.ntmps13
  go_wp2_with fail
  go_loopw [5] (fun i wr => ∃ k m : Nat, k ≤ n ∧ i = .int .i64 k ∧ wr = w.drewN m) (fun i _ => n - (intOf i).toNat)
  case atStart => exact ⟨0, 0, Nat.zero_le _, rfl, rfl⟩
  case round =>
    obtain ⟨k, m, hk, rfl, rfl⟩ := hrel
    by_cases hlt : k < n
    · obtain ⟨b1, o1, rfl, _, q1⟩ := Rd.get H1.out hlt
      obtain ⟨b2, o2, rfl, _, q2⟩ := Rd.get H2.out hlt
      go_wp2_with fail
      go_quiet (fail)
      go_wp2_with fail
      go_roundw
      case rel => exact ⟨k + 1, _, by omega, by go_num, rfl⟩
      case measure => simp [intOf]; omega
    · obtain rfl : k = n := by omega
      go_wp2_with fail
      go_ret
      exact ⟨rfl, m, rfl⟩

set_option maxHeartbeats 1000000 in
theorem allInts_eq (A : Option Addr) (c n : Nat) (v : Int) (B : Nat) (w : World) (hn : n ≤ 4611686018427387904) (h : Is w B A n (fun _ => v)) :
    Calls Tryd.prog 15 #[.slice A n c, .int .i64 v] w fun e w' => e = .returned (.bool true) ∧ w = w' := by
  have H := Lib.hid h
  clear h
  go_enter Tryd.func15, Tryd.ntmps15
  go_wp2_with fail
  go_loop [5] (fun i => ∃ k : Nat, k ≤ n ∧ i = .int .i64 k) (fun i => n - (intOf i).toNat)
  case atStart => exact ⟨0, Nat.zero_le _, rfl⟩
  case round =>
    obtain ⟨k, hk, rfl⟩ := hrel
    by_cases hlt : k < n
    · obtain ⟨b, o, rfl, _, q⟩ := Rd.get H.out hlt
      go_wp2_with fail
      go_round
      case rel => exact ⟨k + 1, by omega, by go_num⟩
      case measure => simp [intOf]; omega
    · obtain rfl : k = n := by omega
      go_wp2_with fail
      go_ret
      exact ⟨rfl, rfl⟩

def liveL : List Nat := [1, 2, 3, 4, 5, 6, 7, 8, 9, 10, 11, 12, 13, 14, 15, 16, 17]
theorem live_cut : Gear.cut 2 4 8 liveL = [6, 4, 2, 5] := by decide +kernel

set_option maxRecDepth 20000 in
set_option maxHeartbeats 1000000 in
theorem lives_any (w : World) (hT : Tz w) :
    Calls Tryd.prog 16 #[] w fun e w' => e = .returned (.bool true) ∧ Below w.heap.size w w' := by
  have hT' := Lib.hid hT
  clear hT
  have ck : chk 2 4 8 = 0 := by decide
  have o1 : Own (w.alloc (.cells #[.int .u8 1, .int .u8 2, .int .u8 3, .int .u8 4, .int .u8 5, .int .u8 6, .int .u8 7, .int .u8 8, .int .u8 9, .int .u8 10, .int .u8 11, .int .u8 12, .int .u8 13, .int .u8 14, .int .u8 15, .int .u8 16, .int .u8 17] 5)) w.heap.size 5 1 (some ⟨w.heap.size, 0, none⟩) 17 17 (u8s liveL) :=
    Own.lit w w.heap.size 5 1 17 #[.int .u8 1, .int .u8 2, .int .u8 3, .int .u8 4, .int .u8 5, .int .u8 6, .int .u8 7, .int .u8 8, .int .u8 9, .int .u8 10, .int .u8 11, .int .u8 12, .int .u8 13, .int .u8 14, .int .u8 15, .int .u8 16, .int .u8 17] rfl (by unfold maxLen; omega) (Nat.le_refl _)
  have hb1 := Lib.hid ((Below.refl w.heap.size w).alloc (Nat.le_refl _) (.cells #[.int .u8 1, .int .u8 2, .int .u8 3, .int .u8 4, .int .u8 5, .int .u8 6, .int .u8 7, .int .u8 8, .int .u8 9, .int .u8 10, .int .u8 11, .int .u8 12, .int .u8 13, .int .u8 14, .int .u8 15, .int .u8 16, .int .u8 17] 5))
  have o1' := Lib.hid o1
  clear o1
  have hco := Lib.hid fun W (h1 : Byt W W.heap.size (some ⟨w.heap.size, 0, none⟩) liveL) (h2 : Tz W) => cut_any 2 4 8 liveL (some ⟨w.heap.size, 0, none⟩) 17 17 W rfl (by decide) (by omega) (Nat.le_refl _) h1 h2
  have hrco := Lib.hid fun W (h1 : Byt W W.heap.size (some ⟨w.heap.size, 0, none⟩) liveL) => refCut_any 2 4 8 liveL (some ⟨w.heap.size, 0, none⟩) 17 17 W rfl (by decide) (by omega) (Nat.le_refl _) h1
  simp only [live_cut, ck, List.length_cons, List.length_nil, Nat.zero_add, Nat.reduceAdd] at hco hrco
  go_enter Tryd.func16, Tryd.ntmps16
  go_wp2_with fail
  generalize hW0 : w.alloc (.cells #[.int .u8 1, .int .u8 2, .int .u8 3, .int .u8 4, .int .u8 5, .int .u8 6, .int .u8 7, .int .u8 8, .int .u8 9, .int .u8 10, .int .u8 11, .int .u8 12, .int .u8 13, .int .u8 14, .int .u8 15, .int .u8 16, .int .u8 17] 5) = w0 at o1' hb1 ⊢
  clear hW0
  refine (one_any w0).mono ?_
  rintro e w1 ⟨rfl, hb2⟩
  have o2 := Lib.hid (o1'.out.below hb2 (fun k hk => (o1'.out.lt k hk).2))
  have hB2 := Lib.hid (hb1.out.trans (hb2.mono hb1.out.size))
  clear o1' hb1 hb2
  go_wp2_with fail
  refine (hco.out w1 o2.out.byt (hT'.out.below hB2.out)).mono ?_
  rintro e w2 ⟨⟨A1, c1, rfl, p1⟩, hb3⟩
  have o3 := Lib.hid (o2.out.below hb3 (fun k hk => (o2.out.lt k hk).2))
  have hB3 := Lib.hid (hB2.out.trans (hb3.mono hB2.out.size))
  have p1' := Lib.hid p1
  clear o2 hB2 hb3 p1 hco
  go_wp2_with fail
  refine (one_any w2).mono ?_
  rintro e w3 ⟨rfl, hb4⟩
  have o4 := Lib.hid (o3.out.below hb4 (fun k hk => (o3.out.lt k hk).2))
  have p4 := Lib.hid (p1'.out.below hb4 (fun k hk => (p1'.out.lt k hk).2))
  have hB4 := Lib.hid (hB3.out.trans (hb4.mono hB3.out.size))
  clear o3 hB3 hb4 p1'
  go_wp2_with fail
  refine (hrco.out w3 o4.out.byt).mono ?_
  rintro e w4 ⟨⟨A2, c2, rfl, p2⟩, hb5⟩
  have p5 := Lib.hid (p4.out.below hb5 (fun k hk => (p4.out.lt k hk).2))
  have hB5 := Lib.hid (hB4.out.trans (hb5.mono hB4.out.size))
  have hsame := Lib.hid (ints_eq A1 A2 c1 c2 4 _ _ _ w4 (by omega) (p5.out.is rfl) (p2.is rfl))
  clear o4 p4 hb5 p2 hB4 hrco
  go_wp2_with (go_at_call 13; refine hsame.out.mono ?_; rintro e w5 ⟨rfl, mq, rfl⟩)
  go_ret
  exact ⟨rfl, below_drewN hB5.out _⟩
end Go.Proofs.YtnjbpacnmiimlaaDoor

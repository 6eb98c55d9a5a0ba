/- The document's words of a block. -/
import Derived.Test.YtlolnpilpdkbkaaDoorShaP
import Derived.Test.YtlolnpilpdkbkaaDoorOwn
namespace Go.Proofs.YtlolnpilpdkbkaaDoor
open Go.RowKit

theorem elU : ElemOk Tryd.prog 76 63 (.int .u64 0) 1 8 := ⟨Tryd.underlying76, by kernel_rfl, rfl, by decide⟩
def u64s (l : List Nat) : List Value := l.map fun b : Nat => .int .u64 (b : Int)
theorem u64s_length (l : List Nat) : (u64s l).length = l.length := by simp [u64s]
theorem u64s_get (l : List Nat) (j : Nat) (h : j < l.length) : (u64s l)[j]? = some (.int .u64 ((l[j]?.getD 0 : Nat) : Int)) := by simp [u64s, h]
theorem u64s_snoc (l : List Nat) (x : Nat) : u64s (l ++ [x]) = u64s l ++ [.int .u64 (x : Int)] := by simp [u64s]
theorem u64_turn {w : World} {B e size n c : Nat} {A : Option Addr} {l : List Value} {x y : Int} (h : Own w B e size A n c (l ++ #[Value.int .u64 x].toList)) (hxy : x = y) : Own w B e size A n c (l ++ [.int .u64 y]) := by
  subst hxy
  exact h
theorem getD_lt {l : List Nat} {M : Nat} (hM : 0 < M) (h : ∀ b ∈ l, b < M) (k : Nat) : l[k]?.getD 0 < M := by
  rcases Nat.lt_or_ge k l.length with hk | hk
  · rw [List.getElem?_eq_getElem hk]
    exact h _ (List.getElem_mem hk)
  · rw [List.getElem?_eq_none hk]
    exact hM
theorem wordsTo_lt {b : List Nat} (hb : ∀ x ∈ b, x < 256) (t : Nat) : ∀ x ∈ Sha.wordsTo b t, x < 4294967296 := by
  induction t with
  | zero => intro x hx; cases hx
  | succ t ih =>
    intro x hx
    rw [Sha.wordsTo, List.mem_append] at hx
    rcases hx with hx | hx
    · exact ih x hx
    · simp only [List.mem_singleton] at hx
      subst hx
      unfold Sha.nextW
      split
      · have h1 := getD_lt (by decide) hb (4 * t)
        have h2 := getD_lt (by decide) hb (4 * t + 1)
        have h3 := getD_lt (by decide) hb (4 * t + 2)
        have h4 := getD_lt (by decide) hb (4 * t + 3)
        unfold Sha.first
        omega
      · exact Nat.mod_lt _ (by decide)

theorem xor_some {a b : Nat} (ha : a < 4294967296) (hb : b < 4294967296) : ∃ c : Nat, bits .xor .u64 (a : Int) (b : Int) = (c : Int) ∧ c < 4294967296 ∧ c = a ^^^ b :=
  ⟨a ^^^ b, u64_xor_nat a b (by omega) (by omega), Nat.xor_lt_two_pow (n := 32) ha hb, rfl⟩
theorem refTurned_some (x n : Nat) (hx : x < 4294967296) (hn : n ≤ 31) (h0 : 1 ≤ n) : ∃ r : Nat, r < 4294967296 ∧ r = rot x n ∧ ∀ w : World, Calls Tryd.prog 47 #[.int .u64 x, .int .i64 n] w fun e w' => e = .returned (.int .u64 (r : Nat)) ∧ ∃ m, w' = w.drewN m :=
  ⟨rot x n, rot_lt hx (by omega), rfl, fun w => refTurned_any x n w hx hn h0⟩
theorem right_some (x n : Nat) (hx : x < 4294967296) (hn : n ≤ 32) : ∃ r : Nat, r < 4294967296 ∧ r = x / 2 ^ n ∧ ∀ w : World, Calls Tryd.prog 48 #[.int .u64 x, .int .i64 n] w fun e w' => e = .returned (.int .u64 (r : Nat)) ∧ w = w' :=
  ⟨x / 2 ^ n, Nat.lt_of_le_of_lt (Nat.div_le_self _ _) hx, rfl, fun w => right_any x n w (by omega) hn⟩

/-- The first j bytes of a word, as a number. -/
def fpart (b : List Nat) (t : Nat) : Nat → Nat
  | 0 => 0
  | j + 1 => fpart b t j * 256 + b[4 * t + j]?.getD 0
theorem fpart_all (b : List Nat) (t : Nat) : fpart b t 4 = Sha.first b t := by simp [fpart, Sha.first]
theorem fpart_lt {b : List Nat} (hb : ∀ x ∈ b, x < 256) (t j : Nat) (hj : j ≤ 4) : fpart b t j < 4294967296 := by
  have h0 := getD_lt (by decide) hb (4 * t)
  have h1 := getD_lt (by decide) hb (4 * t + 1)
  have h2 := getD_lt (by decide) hb (4 * t + 2)
  have h3 := getD_lt (by decide) hb (4 * t + 3)
  rcases (show j = 0 ∨ j = 1 ∨ j = 2 ∨ j = 3 ∨ j = 4 by omega) with e | e | e | e | e <;> subst e <;> simp only [fpart, Nat.add_zero] <;> omega

set_option maxRecDepth 20000 in
set_option maxHeartbeats 2000000 in
theorem words_any (b : List Nat) (A : Option Addr) (c B : Nat) (w : World) (hb : ∀ x ∈ b, x < 256) (hn : b.length = 64) (hB : B ≤ w.heap.size) (h : Byt w B A b) :
    Calls Tryd.prog 41 #[.slice A 64 c] w fun e w' => (∃ A' c', e = .returned (.slice A' 64 c') ∧ Own w' w.heap.size 63 1 A' 64 c' (u64s (Sha.wordsTo b 64))) ∧ Below w.heap.size w w' := by
  have hb' := Lib.hid hb
  have hn' := Lib.hid hn
  have h' := Lib.hid h
  clear hb hn h
  go_enter Tryd.func41, Tryd.ntmps41
  go_wp2_with fail
  go_loopw [3, 4] (fun s i wr => ∃ (k : Nat) (A' : Option Addr) (c' : Nat), k ≤ 64 ∧ i = .int .i64 k ∧ s = .slice A' k c' ∧ Own wr w.heap.size 63 1 A' k c' (u64s (Sha.wordsTo b k)) ∧ Below w.heap.size w wr) (fun _ i _ => 64 - (intOf i).toNat)
  case atStart => exact ⟨0, none, 0, by omega, rfl, rfl, Own.nil _ _ _ _, Below.refl _ _⟩
  case round =>
    obtain ⟨k, A', c', hk, rfl, rfl, hown, hbel⟩ := hrel
    by_cases hlt : k < 64
    · by_cases h16 : k < 16
      · go_wp2_with fail
        go_loop [5, 6] (fun v i => ∃ j : Nat, j ≤ 4 ∧ i = .int .i64 j ∧ v = .int .u64 (fpart b k j : Nat)) (fun _ i => 4 - (intOf i).toNat)
        case atStart => exact ⟨0, by omega, rfl, rfl⟩
        case round =>
          obtain ⟨j, hj, rfl, rfl⟩ := hrel
          have hfl := fpart_lt hb'.out k j hj
          by_cases hj4 : j < 4
          · obtain ⟨bl, off, rfl, _, q⟩ := Rd.get (Rd.below h'.out (hbel.mono hB)) (k := 4 * k + j) (by rw [hn'.out]; omega)
            have hbb := getD_lt (by decide) hb'.out (4 * k + j)
            have hfs : fpart b k (j + 1) = fpart b k j * 256 + b[4 * k + j]?.getD 0 := rfl
            have hfs' := Lib.hid hfs
            clear hfs
            generalize b[4 * k + j]?.getD 0 = y at q hbb hfs'
            generalize fpart b k j = f at hfl hfs'
            go_wp2_with fail
            go_round
            case rel => exact ⟨j + 1, by omega, by go_num, by rw [hfs'.out]; go_num⟩
            case measure => simp [intOf]; omega
          · have e4 : fpart b k j = Sha.nextW b (Sha.wordsTo b k) k := by
              rw [show j = 4 by omega, fpart_all, Sha.nextW, if_pos h16]
            rw [e4] at hfl ⊢
            have hw : Hid (u64s (Sha.wordsTo b (k + 1)) = u64s (Sha.wordsTo b k) ++ [.int .u64 ((Sha.nextW b (Sha.wordsTo b k) k : Nat) : Int)]) := Lib.hid (by rw [Sha.wordsTo, u64s_snoc])
            clear e4
            generalize Sha.nextW b (Sha.wordsTo b k) k = x at hfl hw ⊢
            go_wp2_with (at_builtin; refine wpList_app1 elU _ #[_] rfl rfl _ _ rfl rfl hown rfl (by intro u hu; simp at hu; subst hu; rfl) (by unfold maxLen; omega) (by omega) hbel.size (k + 1) rfl _ rfl ?_; intro A2 c2 w2 hown2 _ hb2)
            go_roundw
            case rel => exact ⟨k + 1, A2, c2, by omega, by go_num, rfl, by rw [hw.out]; exact hown2, hbel.trans hb2⟩
            case measure => simp [intOf]; omega
      · obtain ⟨g, rfl⟩ := hown.head (by omega)
        have hx : Hid (Sha.nextW b (Sha.wordsTo b k) k = (Sha.sig1 ((Sha.wordsTo b k)[k - 2]?.getD 0) + (Sha.wordsTo b k)[k - 7]?.getD 0 + Sha.sig0 ((Sha.wordsTo b k)[k - 15]?.getD 0) + (Sha.wordsTo b k)[k - 16]?.getD 0) % 4294967296) := Lib.hid (by rw [Sha.nextW, if_neg h16])
        have hw : Hid (u64s (Sha.wordsTo b (k + 1)) = u64s (Sha.wordsTo b k) ++ [.int .u64 ((Sha.nextW b (Sha.wordsTo b k) k : Nat) : Int)]) := Lib.hid (by rw [Sha.wordsTo, u64s_snoc])
        have cellAt : ∀ j, j < k → wr.cell? ⟨g, j, none⟩ = some (.int .u64 (((Sha.wordsTo b k)[j]?.getD 0 : Nat) : Int)) := fun j hj => (hown.cell j (by omega)).trans (u64s_get _ j (by rw [Sha.wordsTo_length]; exact hj))
        have q2 := cellAt (k - 2) (by omega)
        have q7 := cellAt (k - 7) (by omega)
        have q15 := cellAt (k - 15) (by omega)
        have q16 := cellAt (k - 16) (by omega)
        have wl := wordsTo_lt hb'.out k
        have l2 := getD_lt (by decide) wl (k - 2)
        have l7 := getD_lt (by decide) wl (k - 7)
        have l15 := getD_lt (by decide) wl (k - 15)
        have l16 := getD_lt (by decide) wl (k - 16)
        have e2 : (k : Int) - 2 = ((k - 2 : Nat) : Int) := by omega
        have e7 : (k : Int) - 7 = ((k - 7 : Nat) : Int) := by omega
        have e15 : (k : Int) - 15 = ((k - 15 : Nat) : Int) := by omega
        have e16 : (k : Int) - 16 = ((k - 16 : Nat) : Int) := by omega
        have m2 : k - 2 < k := by omega
        have m7 : k - 7 < k := by omega
        have m15 : k - 15 < k := by omega
        have m16 : k - 16 < k := by omega
        clear cellAt wl
        generalize (Sha.wordsTo b k)[k - 2]?.getD 0 = x2 at *
        generalize (Sha.wordsTo b k)[k - 7]?.getD 0 = x7 at *
        generalize (Sha.wordsTo b k)[k - 15]?.getD 0 = x15 at *
        generalize (Sha.wordsTo b k)[k - 16]?.getD 0 = x16 at *
        generalize k - 2 = j2 at *
        generalize k - 7 = j7 at *
        generalize k - 15 = j15 at *
        generalize k - 16 = j16 at *
        obtain ⟨r1, lr1, v1, c1⟩ := refTurned_some x15 7 l15 (by omega) (by omega)
        obtain ⟨r2, lr2, v2, c2⟩ := refTurned_some x15 18 l15 (by omega) (by omega)
        obtain ⟨r3, lr3, v3, c3⟩ := right_some x15 3 l15 (by omega)
        obtain ⟨r4, f1, lr4, v4⟩ := xor_some lr1 lr2
        obtain ⟨s0, f2, ls0, v5⟩ := xor_some lr4 lr3
        obtain ⟨p1, lp1, u1, d1⟩ := refTurned_some x2 17 l2 (by omega) (by omega)
        obtain ⟨p2, lp2, u2, d2⟩ := refTurned_some x2 19 l2 (by omega) (by omega)
        obtain ⟨p3, lp3, u3, d3⟩ := right_some x2 10 l2 (by omega)
        obtain ⟨p4, f3, lp4, u4⟩ := xor_some lp1 lp2
        obtain ⟨s1, f4, ls1, u5⟩ := xor_some lp4 lp3
        have hs0 : Hid (s0 = Sha.sig0 x15) := Lib.hid (by rw [v5, v4, v3, v2, v1]; rfl)
        have hs1 : Hid (s1 = Sha.sig1 x2) := Lib.hid (by rw [u5, u4, u3, u2, u1]; rfl)
        have c1' := Lib.hid c1
        have c2' := Lib.hid c2
        have c3' := Lib.hid c3
        have d1' := Lib.hid d1
        have d2' := Lib.hid d2
        have d3' := Lib.hid d3
        clear v1 v2 v3 v4 v5 u1 u2 u3 u4 u5 c1 c2 c3 d1 d2 d3
        have hown' := Lib.hid hown
        have hbel' := Lib.hid hbel
        clear hown hbel
        go_wp2_with fail
        refine (c1'.out _).mono ?_
        rintro e w' ⟨rfl, m1, rfl⟩
        go_wp2_with fail
        refine (c2'.out _).mono ?_
        rintro e w' ⟨rfl, m2, rfl⟩
        go_wp2_with fail
        refine (c3'.out _).mono ?_
        rintro e w' ⟨rfl, rfl⟩
        go_wp2_with fail
        refine (d1'.out _).mono ?_
        rintro e w' ⟨rfl, m3, rfl⟩
        go_wp2_with fail
        refine (d2'.out _).mono ?_
        rintro e w' ⟨rfl, m4, rfl⟩
        go_wp2_with fail
        refine (d3'.out _).mono ?_
        rintro e w' ⟨rfl, rfl⟩
        go_wp2_with fail
        go_quiet (fail)
        have hval : Hid (((s1 : Int) + x7 + s0 + x16) % 4294967296 = ((Sha.nextW b (Sha.wordsTo b k) k : Nat) : Int)) := Lib.hid (by rw [hx.out, ← hs1.out, ← hs0.out]; omega)
        clear q2 q7 q15 q16 f1 f2 f3 f4 c1' c2' c3' d1' d2' d3'
        go_wp2_with (at_builtin; refine wpList_app1 elU _ #[_] rfl rfl _ _ rfl rfl (hown'.out.drewN _) rfl (by intro u hu; simp at hu; subst hu; rfl) (by unfold maxLen; omega) (by omega) (by simpa using hbel'.out.size) (k + 1) rfl _ rfl ?_; intro A2 c2 w2 hown2 _ hb2)
        have hB2 := (below_drewN hbel'.out _).trans hb2
        go_roundw
        case rel => exact ⟨k + 1, A2, c2, by omega, by go_num, rfl, by rw [hw.out]; exact u64_turn hown2 hval.out, hB2⟩
        case measure => simp [intOf]; omega
    · obtain rfl : k = 64 := by omega
      go_wp2_with fail
      go_ret
      exact ⟨⟨A', c', rfl, hown⟩, hbel⟩
end Go.Proofs.YtlolnpilpdkbkaaDoor

/- The document's side: the number added up anew, whether a piece ends, the first piece. -/
import Derived.Test.YtnjbpacnmiimlaaDoorGearF
namespace Go.Proofs.YtnjbpacnmiimlaaDoor
open Go.RowKit

theorem rev_get {l : List Nat} {L r : Nat} (hl : l.length = L) (hr : r < L) : l.reverse[L - (r + 1)]? = some (l[r]?.getD 0) := by
  rw [List.getElem?_reverse (by omega), List.getElem?_eq_getElem (by omega), List.getElem?_eq_getElem (by omega), Option.getD_some]
  congr 2
  omega

set_option maxRecDepth 20000 in
set_option maxHeartbeats 1000000 in
theorem rolled_any (l : List Nat) (A : Option Addr) (c L : Nat) (w : World) (hlen : l.length = L) (hl : ∀ b ∈ l, b < 256) (hL : L ≤ 140737488355327) (hA : Byt w w.heap.size A l) :
    Calls Tryd.prog 38 #[.slice A L c] w fun e w' => e = .returned (.int .u64 (Gear.rolls l : Nat)) ∧ w = w' := by
  have hlen' := Lib.hid hlen
  have hl' := Lib.hid hl
  have hA' := Lib.hid hA
  clear hlen hl hA
  go_enter Tryd.func38, Tryd.ntmps38
  go_wp2_with fail
  go_loop [3, 4, 5] (fun hv wv iv => ∃ q hh wt : Nat, q ≤ L ∧ L - q ≤ 64 ∧ iv = .int .i64 ((q : Int) - 1) ∧ hv = .int .u64 (hh : Int) ∧ wv = .int .u64 (wt : Int) ∧ Hid (∀ _ : Unit, hh = Gear.sumR (l.reverse.take (L - q)) % 18446744073709551616 ∧ wt = 2 ^ (L - q) % 18446744073709551616)) (fun _ _ iv => (intOf iv + 1).toNat)
  case atStart => exact ⟨L, 0, 1, by omega, by omega, rfl, rfl, rfl, Lib.hid fun _ => by rw [Nat.sub_self, List.take_zero, Gear.sumR_nil]; exact ⟨rfl, rfl⟩⟩
  case round =>
    obtain ⟨q, hh, wt, hq, hj, rfl, rfl, rfl, he⟩ := hrel
    by_cases h0 : q = 0
    · subst h0
      go_wp2_with fail
      go_ret
      refine ⟨ret_int ?_, rfl⟩
      rw [(he.out ()).1, Gear.rolls_sum, Nat.sub_zero, List.take_of_length_le (by rw [List.length_reverse, hlen'.out]; exact Nat.le_refl _)]
    · obtain ⟨r, rfl⟩ : ∃ r, q = r + 1 := ⟨q - 1, by omega⟩
      rw [show (((r + 1 : Nat) : Int) - 1) = (r : Int) by omega]
      by_cases h64 : L - (r + 1) = 64
      · have hw0 : wt = 0 := by
          rw [(he.out ()).2, h64]
        subst hw0
        go_wp2_with fail
        go_ret
        refine ⟨ret_int ?_, rfl⟩
        rw [(he.out ()).1, Gear.rolls_sum, h64, Gear.sumR_take]
      · obtain ⟨b0, off, rfl, _, qc⟩ := hA'.out.get (k := r) (by rw [hlen'.out]; omega)
        have hrev := rev_get hlen'.out (r := r) (by omega)
        have hbb : l[r]?.getD 0 < 256 := by
          have h1 : r < l.length := by rw [hlen'.out]; omega
          rw [List.getElem?_eq_getElem h1]
          exact hl'.out _ (List.getElem_mem h1)
        obtain ⟨y, hy⟩ : ∃ y, l[r]?.getD 0 = y := ⟨_, rfl⟩
        rw [hy] at qc hrev hbb
        have hs := Gear.sumR_snoc _ _ _ hrev
        have hpow : 2 ^ (L - (r + 1)) ≤ 2 ^ 63 := Nat.pow_le_pow_right (by omega) (by omega)
        have hpos : 0 < 2 ^ (L - (r + 1)) := Nat.two_pow_pos _
        have hwt : wt = 2 ^ (L - (r + 1)) := by
          rw [(he.out ()).2]
          exact Nat.mod_eq_of_lt (by omega)
        have hw1 : ¬ wt = 0 := by omega
        have hwb : wt ≤ 9223372036854775808 := by omega
        have hword := Lib.hid fun W => refWord_any y W hbb
        obtain ⟨z, hz⟩ : ∃ z, wordN y = z := ⟨_, rfl⟩
        simp only [hz] at hword hs
        obtain ⟨h2, e1⟩ : ∃ h2 : Nat, IntKind.u64.wrap ((hh : Int) + IntKind.u64.wrap ((wt : Int) * (z : Int))) = (h2 : Int) := ⟨_, (Int.toNat_of_nonneg (wrap64_in _).1).symm⟩
        obtain ⟨w2, e2⟩ : ∃ w2 : Nat, IntKind.u64.wrap ((wt : Int) * 2) = (w2 : Int) := ⟨_, (Int.toNat_of_nonneg (wrap64_in _).1).symm⟩
        have hnew : Hid (∀ _ : Unit, h2 = Gear.sumR (l.reverse.take (L - r)) % 18446744073709551616 ∧ w2 = 2 ^ (L - r) % 18446744073709551616) := Lib.hid fun _ => by
          rw [show L - r = L - (r + 1) + 1 by omega, hs, Nat.pow_succ, ← hwt]
          rw [IntKind.wrap_u64, IntKind.wrap_u64, ← Int.natCast_mul] at e1
          rw [IntKind.wrap_u64] at e2
          have h5 := (he.out ()).1
          generalize Gear.sumR (l.reverse.take (L - (r + 1))) = s at h5
          generalize wt * z = u at e1
          refine ⟨by omega, by omega⟩
        clear hs hpow hpos hwt hy hz hrev he
        go_wp2_with (go_at_call 42; refine (hword.out _).mono ?_; rintro e w' ⟨rfl, rfl⟩)
        go_round
        case rel => exact ⟨r, h2, w2, by omega, by omega, by go_num, rfl, rfl, hnew⟩
        case measure => simp [intOf]

set_option maxRecDepth 20000 in
set_option maxHeartbeats 1000000 in
theorem ended_any (a m x : Int) (l : List Nat) (A : Option Addr) (c L : Nat) (w : World) (ok : okRule a m x) (hlen : l.length = L) (hl : ∀ b ∈ l, b < 256) (hL : L ≤ 140737488355327) (hA : Byt w w.heap.size A l) :
    Calls Tryd.prog 30 #[.agg #[.int .i64 a, .int .i64 m, .int .i64 x], .slice A L c] w fun e w' => e = .returned (.bool (Gear.ends a m x L (Gear.rolls l))) ∧ Below w.heap.size w w' := by
  have hlen' := Lib.hid hlen
  have hl' := Lib.hid hl
  have hA' := Lib.hid hA
  obtain ⟨c0, c1, c2⟩ := box3 w a m x
  have hb0 := Lib.hid ((Below.refl w.heap.size w).alloc (Nat.le_refl _) (.cells #[.int .i64 a, .int .i64 m, .int .i64 x] 23))
  have hp := pwr_pos ok.2.2.2.2
  obtain ⟨p, hpp⟩ : ∃ p, Hid (∀ _ : Unit, pwr m = p) := ⟨_, Lib.hid fun _ => rfl⟩
  rw [hpp.out ()] at hp
  obtain ⟨hp1, hp2, -⟩ := hp
  clear hlen hl hA ok
  by_cases h1 : x ≤ (L : Int)
  · have he : Hid (∀ _ : Unit, Gear.ends a m x L (Gear.rolls l) = true) := Lib.hid fun _ => by
      unfold Gear.ends
      rw [if_pos h1]
    go_enter Tryd.func30, Tryd.ntmps30
    go_wp2_with fail
    go_ret
    exact ⟨ret_bool (he.out ()).symm, hb0.out⟩
  by_cases h2 : (L : Int) < a
  · have he : Hid (∀ _ : Unit, Gear.ends a m x L (Gear.rolls l) = false) := Lib.hid fun _ => by
      unfold Gear.ends
      rw [if_neg h1, if_pos h2]
    go_enter Tryd.func30, Tryd.ntmps30
    go_wp2_with fail
    go_ret
    exact ⟨ret_bool (he.out ()).symm, hb0.out⟩
  by_cases h3 : (L : Int) < m
  · have hP : Gear.places m L = 63 - p := by
      unfold Gear.places
      rw [if_pos h3, hpp.out ()]
    obtain ⟨P, hPP⟩ : ∃ P, 63 - p = P := ⟨_, rfl⟩
    rw [hPP] at hP
    have hP2 := Lib.hid hP
    have e8 : (63 : Int) - (p : Int) = (P : Int) := by omega
    have hP63 : P ≤ 63 := by omega
    have hend : Hid (∀ _ : Unit, Gear.ends a m x L (Gear.rolls l) = decide (Gear.rolls l < 2 ^ P)) := Lib.hid fun _ => by
      unfold Gear.ends
      rw [if_neg (by omega), if_neg (by omega), hP2.out]
    have hrol' := Lib.hid fun W (hW : Below w.heap.size w W) => rolled_any l A c L W hlen'.out hl'.out hL ((hA'.out.below hW).mono hW.size)
    clear hP hPP
    go_enter Tryd.func30, Tryd.ntmps30
    go_wp2_with (go_at_call 37; refine (power_any m _).mono ?_; rw [hpp.out ()]; rintro e w' ⟨rfl, rfl⟩)
    go_loop [7, 9] (fun bv iv => ∃ k u : Nat, k ≤ P ∧ iv = .int .i64 (k : Int) ∧ bv = .int .u64 (u : Int) ∧ Hid (∀ _ : Unit, u = 2 ^ k)) (fun _ iv => P - (intOf iv).toNat)
    case atStart => exact ⟨0, 1, by omega, rfl, rfl, Lib.hid fun _ => rfl⟩
    case round =>
      obtain ⟨k, u, hk, rfl, rfl, hu⟩ := hrel
      have hpow : 2 ^ k ≤ 2 ^ 63 := Nat.pow_le_pow_right (by omega) (by omega)
      by_cases hkP : k < P
      · obtain ⟨u2, e2⟩ : ∃ u2 : Nat, IntKind.u64.wrap ((u : Int) * 2) = (u2 : Int) := ⟨_, (Int.toNat_of_nonneg (wrap64_in _).1).symm⟩
        have hnew : Hid (∀ _ : Unit, u2 = 2 ^ (k + 1)) := Lib.hid fun _ => by
          have h2 : 2 ^ k ≤ 2 ^ 62 := Nat.pow_le_pow_right (by omega) (by omega)
          rw [IntKind.wrap_u64] at e2
          have h5 := hu.out ()
          rw [Nat.pow_succ, ← h5]
          omega
        clear hpow hu
        go_wp2_with fail
        go_round
        case rel => exact ⟨k + 1, u2, by omega, by go_num, rfl, hnew⟩
        case measure => simp [intOf]; omega
      · obtain rfl : k = P := by omega
        have hfin : Hid (∀ _ : Unit, Gear.ends a m x L (Gear.rolls l) = decide (Gear.rolls l < u)) := Lib.hid fun _ => by rw [hend.out (), hu.out ()]
        clear hu hpow
        go_wp2_with (go_at_call 38; refine (hrol'.out _ (hb0.out)).mono ?_; rintro e w' ⟨rfl, rfl⟩)
        go_ret
        exact ⟨ret_bool (by rw [hfin.out ()]), hb0.out⟩
  · have hP : Gear.places m L = 65 - p := by
      unfold Gear.places
      rw [if_neg h3, hpp.out ()]
    obtain ⟨P, hPP⟩ : ∃ P, 65 - p = P := ⟨_, rfl⟩
    rw [hPP] at hP
    have hP2 := Lib.hid hP
    have e8 : (65 : Int) - (p : Int) = (P : Int) := by omega
    have hP63 : P ≤ 63 := by omega
    have hend : Hid (∀ _ : Unit, Gear.ends a m x L (Gear.rolls l) = decide (Gear.rolls l < 2 ^ P)) := Lib.hid fun _ => by
      unfold Gear.ends
      rw [if_neg (by omega), if_neg (by omega), hP2.out]
    have hrol' := Lib.hid fun W (hW : Below w.heap.size w W) => rolled_any l A c L W hlen'.out hl'.out hL ((hA'.out.below hW).mono hW.size)
    clear hP hPP
    go_enter Tryd.func30, Tryd.ntmps30
    go_wp2_with (go_at_call 37; refine (power_any m _).mono ?_; rw [hpp.out ()]; rintro e w' ⟨rfl, rfl⟩)
    go_loop [7, 9] (fun bv iv => ∃ k u : Nat, k ≤ P ∧ iv = .int .i64 (k : Int) ∧ bv = .int .u64 (u : Int) ∧ Hid (∀ _ : Unit, u = 2 ^ k)) (fun _ iv => P - (intOf iv).toNat)
    case atStart => exact ⟨0, 1, by omega, rfl, rfl, Lib.hid fun _ => rfl⟩
    case round =>
      obtain ⟨k, u, hk, rfl, rfl, hu⟩ := hrel
      have hpow : 2 ^ k ≤ 2 ^ 63 := Nat.pow_le_pow_right (by omega) (by omega)
      by_cases hkP : k < P
      · obtain ⟨u2, e2⟩ : ∃ u2 : Nat, IntKind.u64.wrap ((u : Int) * 2) = (u2 : Int) := ⟨_, (Int.toNat_of_nonneg (wrap64_in _).1).symm⟩
        have hnew : Hid (∀ _ : Unit, u2 = 2 ^ (k + 1)) := Lib.hid fun _ => by
          have h2 : 2 ^ k ≤ 2 ^ 62 := Nat.pow_le_pow_right (by omega) (by omega)
          rw [IntKind.wrap_u64] at e2
          have h5 := hu.out ()
          rw [Nat.pow_succ, ← h5]
          omega
        clear hpow hu
        go_wp2_with fail
        go_round
        case rel => exact ⟨k + 1, u2, by omega, by go_num, rfl, hnew⟩
        case measure => simp [intOf]; omega
      · obtain rfl : k = P := by omega
        have hfin : Hid (∀ _ : Unit, Gear.ends a m x L (Gear.rolls l) = decide (Gear.rolls l < u)) := Lib.hid fun _ => by rw [hend.out (), hu.out ()]
        clear hu hpow
        go_wp2_with (go_at_call 38; refine (hrol'.out _ (hb0.out)).mono ?_; rintro e w' ⟨rfl, rfl⟩)
        go_ret
        exact ⟨ret_bool (by rw [hfin.out ()]), hb0.out⟩

theorem slice_to (b off L c : Nat) (k : Nat) (K : Int) (hK : K = (k : Int)) (hk : k ≤ L) (hc : L ≤ c) (hk0 : 0 < k) (W : World) :
    (Instr.slice 24 (.slice (some ⟨b, off, none⟩) L c) none (some (.int .i64 K)) none).run Tryd.prog W = .ok (.slice (some ⟨b, off, none⟩) k c) W := by
  subst hK
  have hs : (sizeOf (Tryd.prog.elem 24)).run Tryd.prog W = .ok 1 W := by kernel_rfl
  rw [run_slice_h W 24 _ L c (by rw [Tryd.underlying24]; kernel_rfl) .i64 (k : Int) (by omega) (by omega), hs]
  simp only [Result.andThen, sliced, Int.toNat_natCast, Nat.zero_mul, Nat.sub_zero]
  rw [if_neg (by omega)]
  simp [Addr.add_lit]
theorem Byt.take {w : World} {B : Nat} {A : Option Addr} {l : List Nat} (h : Byt w B A l) (k : Nat) (hk : k ≤ l.length) : Byt w B A (l.take k) := by
  have hl : (l.take k).length = k := by rw [List.length_take]; omega
  unfold Byt
  rw [hl]
  exact (Rd.take h hk).congr fun j hj => by rw [List.getElem?_take_of_lt hj]
theorem Byt.lt {w : World} {B b off : Nat} {l : List Nat} (h : Byt w B (some ⟨b, off, none⟩) l) (h0 : 0 < l.length) : b < B := by
  obtain ⟨b', off', e, hb, _⟩ := h h0
  cases e
  exact hb

theorem keep3 {w0 w w' : World} {a b c : Addr} {x y z : Value} (hb : Below w.heap.size w w') (h : Below w0.heap.size w0 w ∧ w.cell? a = some x ∧ w.cell? b = some y ∧ w.cell? c = some z) :
    Below w0.heap.size w0 w' ∧ w'.cell? a = some x ∧ w'.cell? b = some y ∧ w'.cell? c = some z := by
  have kc : ∀ {a : Addr} {v : Value}, w.cell? a = some v → w'.cell? a = some v := fun h => (hb.cell (World.block_lt_of_cell? _ _ h)).trans h
  exact ⟨h.1.trans (hb.mono h.1.size), kc h.2.1, kc h.2.2.1, kc h.2.2.2⟩

set_option maxRecDepth 20000 in
set_option maxHeartbeats 1000000 in
theorem refFirst_any (a m x : Int) (l : List Nat) (A : Option Addr) (c L : Nat) (w : World) (hlen : l.length = L) (hl : ∀ b ∈ l, b < 256) (hL : L ≤ 140737488355326) (hc : L ≤ c) (hA : Byt w w.heap.size A l) :
    Calls Tryd.prog 8 #[.agg #[.int .i64 a, .int .i64 m, .int .i64 x], .slice A L c] w fun e w' => e = .returned (.tuple #[.int .i64 ((Gear.first a m x l).1 : Nat), .bool (Gear.first a m x l).2]) ∧ Below w.heap.size w w' := by
  have hlen' := Lib.hid hlen
  have hl' := Lib.hid hl
  have hA' := Lib.hid hA
  obtain ⟨c0, c1, c2⟩ := box3 w a m x
  have hb0 := Lib.hid ((Below.refl w.heap.size w).alloc (Nat.le_refl _) (.cells #[.int .i64 a, .int .i64 m, .int .i64 x] 23))
  clear hlen hl hA
  by_cases ok : okRule a m x
  · rw [Gear.first_ok ok]
    have ck := chk_ok ok
    have ok' := Lib.hid ok
    clear ok
    go_enter Tryd.func8, Tryd.ntmps8
    go_wp2_with (go_at_call 26; refine (refCheck_any a m x _).mono ?_; rw [ck]; rintro e w1 ⟨rfl, hb1⟩)
    have d0 := (hb1.cell (p := ⟨w.heap.size, 0, none⟩) (by simp)).trans c0
    have d1 := (hb1.cell (p := ⟨w.heap.size, 1, none⟩) (by simp)).trans c1
    have d2 := (hb1.cell (p := ⟨w.heap.size, 2, none⟩) (by simp)).trans c2
    have hB1 := Lib.hid (hb0.out.trans (hb1.mono (by simp)))
    clear hb1 c0 c1 c2
    go_loopw [6] (fun i wr => ∃ k : Nat, k ≤ L ∧ i = .int .i64 ((k : Int) + 1) ∧ Hid (Below w.heap.size w wr) ∧ wr.cell? ⟨w.heap.size, 0, none⟩ = some (.int .i64 a) ∧ wr.cell? ⟨w.heap.size, 1, none⟩ = some (.int .i64 m) ∧ wr.cell? ⟨w.heap.size, 2, none⟩ = some (.int .i64 x) ∧ Hid (∀ _ : Unit, Gear.scan a m x 0 0 l = Gear.scan a m x k (Gear.rolls (l.take k)) (l.drop k))) (fun i _ => L + 1 - (intOf i).toNat)
    case atStart => exact ⟨0, by omega, rfl, hB1, d0, d1, d2, Lib.hid fun _ => rfl⟩
    case round =>
      clear hB1 d0 d1 d2
      obtain ⟨k, hk, rfl, hbel, d0, d1, d2, hsc⟩ := hrel
      by_cases hlt : k < L
      · have hr := hA'.out.below hbel.out
        obtain ⟨b0, off, rfl, hb0B, _⟩ := hr.get (k := k) (by rw [hlen'.out]; exact hlt)
        have hd := drop_get (l := l) (k := k) (by rw [hlen'.out]; exact hlt)
        have hto := fun W => slice_to b0 off L c (k + 1) ((k : Int) + 1) (by omega) (by omega) hc (by omega) W
        have hbytes : ∀ y ∈ l.take (k + 1), y < 256 := fun y hy => hl'.out y (List.mem_of_mem_take hy)
        have hen := Lib.hid fun W (hW : Below w.heap.size w W) => ended_any a m x (l.take (k + 1)) (some ⟨b0, off, none⟩) c (k + 1) W ok'.out (by rw [List.length_take, hlen'.out]; omega) hbytes (by omega) (((hA'.out.take (k + 1) (by rw [hlen'.out]; omega)).below hW).mono hW.size)
        have hro : Gear.rolls (l.take (k + 1)) = Gear.roll (Gear.rolls (l.take k)) (l[k]?.getD 0) := by
          have h1 : k < l.length := by rw [hlen'.out]; exact hlt
          rw [List.take_add_one, List.getElem?_eq_getElem h1, Option.toList_some, Gear.rolls_snoc]
          rfl
        rw [hro] at hen
        rw [hd] at hsc
        have hk1 : Hid (∀ _ : Unit, Gear.rolls (l.take (k + 1)) = Gear.roll (Gear.rolls (l.take k)) (l[k]?.getD 0)) := Lib.hid fun _ => hro
        clear hd hbytes hro hr hb0B
        obtain ⟨r, hrr⟩ : ∃ r, Hid (∀ _ : Unit, Gear.roll (Gear.rolls (l.take k)) (l[k]?.getD 0) = r) := ⟨_, Lib.hid fun _ => rfl⟩
        by_cases he : Gear.ends a m x (k + 1) (Gear.roll (Gear.rolls (l.take k)) (l[k]?.getD 0)) = true
        · have hfin : Hid (∀ _ : Unit, Gear.scan a m x 0 0 l = (k + 1, true)) := Lib.hid fun _ => (hsc.out ()).trans (Gear.scan_hit he)
          rw [he] at hen
          clear he hsc
          go_wp2_with fail
          go_region_held3 (fun w' => Below w.heap.size w w' ∧ w'.cell? ⟨w.heap.size, 0, none⟩ = some (.int .i64 a) ∧ w'.cell? ⟨w.heap.size, 1, none⟩ = some (.int .i64 m) ∧ w'.cell? ⟨w.heap.size, 2, none⟩ = some (.int .i64 x))
            (first | exact ⟨below_drewN hbel.out 1, d0, d1, d2⟩ | exact keep3 hb ⟨hbel.out, d0, d1, d2⟩ | exact keep3 hb (by assumption) | assumption)
            (first | (go_at_call 30; refine (hen.out _ (And.left (by assumption))).mono ?_; rintro e w' ⟨rfl, hb⟩))
          rename_i hH
          obtain ⟨hbel2, d0', d1', d2'⟩ := hH
          have hbel2 := Lib.hid hbel2
          clear hb hbel d0 d1 d2
          go_wp2_with fail
          go_ret2
          exact ⟨ret_first (by rw [hfin.out ()]; rfl) (by rw [hfin.out ()]), hbel2.out⟩
        · have hfin : Hid (∀ _ : Unit, Gear.scan a m x 0 0 l = Gear.scan a m x (k + 1) (Gear.rolls (l.take (k + 1))) (l.drop (k + 1))) := Lib.hid fun _ => by
            rw [hsc.out (), Gear.scan_miss he, hk1.out ()]
          rw [Bool.not_eq_true] at he
          rw [he] at hen
          clear he hsc
          go_wp2_with fail
          go_region_held3 (fun w' => Below w.heap.size w w' ∧ w'.cell? ⟨w.heap.size, 0, none⟩ = some (.int .i64 a) ∧ w'.cell? ⟨w.heap.size, 1, none⟩ = some (.int .i64 m) ∧ w'.cell? ⟨w.heap.size, 2, none⟩ = some (.int .i64 x))
            (first | exact ⟨below_drewN hbel.out 1, d0, d1, d2⟩ | exact keep3 hb ⟨hbel.out, d0, d1, d2⟩ | exact keep3 hb (by assumption) | assumption)
            (first | (go_at_call 30; refine (hen.out _ (And.left (by assumption))).mono ?_; rintro e w' ⟨rfl, hb⟩))
          rename_i hH
          obtain ⟨hbel2, d0', d1', d2'⟩ := hH
          have hbel2 := Lib.hid hbel2
          clear hb hbel d0 d1 d2
          go_wp2_with fail
          go_roundw
          case rel => exact ⟨k + 1, by omega, by go_num, hbel2, d0', d1', d2', hfin⟩
          case measure => simp [intOf]; omega
      · obtain rfl : k = L := by omega
        have hfin : Hid (∀ _ : Unit, Gear.scan a m x 0 0 l = (k, false)) := Lib.hid fun _ => by
          rw [hsc.out (), ← hlen'.out, List.drop_length]
          rfl
        go_wp2_with fail
        go_ret2
        exact ⟨ret_first (by rw [hfin.out ()]) (by rw [hfin.out ()]), hbel.out⟩
  · rw [Gear.first_no ok]
    have ck := chk_no ok
    clear ok
    go_enter Tryd.func8, Tryd.ntmps8
    go_wp2_with (go_at_call 26; refine (refCheck_any a m x _).mono ?_; rw [ck]; rintro e w1 ⟨rfl, hb1⟩)
    go_ret2
    exact ⟨rfl, hb0.out.trans (hb1.mono (by simp))⟩
end Go.Proofs.YtnjbpacnmiimlaaDoor

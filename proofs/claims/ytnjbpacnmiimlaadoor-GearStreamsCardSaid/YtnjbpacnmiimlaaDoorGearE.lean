/- gear.ends: the test of a piece's end, made and asked. -/
import Derived.Test.YtnjbpacnmiimlaaDoorGearW2
import Derived.BigRegion
namespace Go.Proofs.YtnjbpacnmiimlaaDoor
open Go.RowKit

def dbL : List Nat := [0, 1, 56, 2, 57, 49, 28, 3, 61, 58, 42, 50, 38, 29, 17, 4, 62, 47, 59, 36, 45, 43, 51, 22, 53, 39, 33, 30, 24, 18, 12, 5, 63, 55, 48, 27, 60, 41, 37, 16, 46, 35, 44, 21, 52, 32, 23, 11, 54, 26, 40, 15, 34, 20, 31, 10, 25, 14, 19, 9, 13, 8, 7, 6]
/-- The table that TrailingZeros reads. -/
def Tz (w : World) : Prop := ∀ j : Nat, j < 64 → w.cell? ⟨1, j, none⟩ = some (.int .u8 ((dbL[j]?.getD 0 : Nat) : Int))
theorem Tz.below {w w' : World} (h : Tz w) (hb : Below w.heap.size w w') : Tz w' := fun j hj => (hb.cell (World.block_lt_of_cell? _ _ (h j hj))).trans (h j hj)
theorem Tz.drewN {w : World} (h : Tz w) (n : Nat) : Tz (w.drewN n) := h

set_option maxRecDepth 20000 in
set_option maxHeartbeats 1000000 in
theorem tz_any (m : Int) (w : World) (hp : pw m) (hT : Tz w) :
    Calls Tryd.prog 39 #[.int .u64 m] w fun e w' => e = .returned (.int .i64 (pwr m : Nat)) ∧ w = w' := by
  have q2 := hT 3 (by decide)
  have q3 := hT 7 (by decide)
  have q4 := hT 15 (by decide)
  have q5 := hT 31 (by decide)
  have q6 := hT 63 (by decide)
  have q7 := hT 62 (by decide)
  have q8 := hT 61 (by decide)
  have q9 := hT 59 (by decide)
  have q10 := hT 55 (by decide)
  have q11 := hT 47 (by decide)
  have q12 := hT 30 (by decide)
  simp only [show dbL[3]?.getD 0 = 2 from rfl, show dbL[7]?.getD 0 = 3 from rfl, show dbL[15]?.getD 0 = 4 from rfl, show dbL[31]?.getD 0 = 5 from rfl, show dbL[63]?.getD 0 = 6 from rfl, show dbL[62]?.getD 0 = 7 from rfl, show dbL[61]?.getD 0 = 8 from rfl, show dbL[59]?.getD 0 = 9 from rfl, show dbL[55]?.getD 0 = 10 from rfl, show dbL[47]?.getD 0 = 11 from rfl, show dbL[30]?.getD 0 = 12 from rfl] at q2 q3 q4 q5 q6 q7 q8 q9 q10 q11 q12
  clear hT
  rcases hp with h | h | h | h | h | h | h | h | h | h | h <;> subst h
  · have e : IntKind.u64.wrap (bits .and .u64 4 (IntKind.u64.wrap (-4)) * 285870213051353865) / 288230376151711744 = 3 := by decide
    go_enter Tryd.func39, Tryd.ntmps39
    go_wp2
    go_ret
    exact ⟨rfl, rfl⟩
  · have e : IntKind.u64.wrap (bits .and .u64 8 (IntKind.u64.wrap (-8)) * 285870213051353865) / 288230376151711744 = 7 := by decide
    go_enter Tryd.func39, Tryd.ntmps39
    go_wp2
    go_ret
    exact ⟨rfl, rfl⟩
  · have e : IntKind.u64.wrap (bits .and .u64 16 (IntKind.u64.wrap (-16)) * 285870213051353865) / 288230376151711744 = 15 := by decide
    go_enter Tryd.func39, Tryd.ntmps39
    go_wp2
    go_ret
    exact ⟨rfl, rfl⟩
  · have e : IntKind.u64.wrap (bits .and .u64 32 (IntKind.u64.wrap (-32)) * 285870213051353865) / 288230376151711744 = 31 := by decide
    go_enter Tryd.func39, Tryd.ntmps39
    go_wp2
    go_ret
    exact ⟨rfl, rfl⟩
  · have e : IntKind.u64.wrap (bits .and .u64 64 (IntKind.u64.wrap (-64)) * 285870213051353865) / 288230376151711744 = 63 := by decide
    go_enter Tryd.func39, Tryd.ntmps39
    go_wp2
    go_ret
    exact ⟨rfl, rfl⟩
  · have e : IntKind.u64.wrap (bits .and .u64 128 (IntKind.u64.wrap (-128)) * 285870213051353865) / 288230376151711744 = 62 := by decide
    go_enter Tryd.func39, Tryd.ntmps39
    go_wp2
    go_ret
    exact ⟨rfl, rfl⟩
  · have e : IntKind.u64.wrap (bits .and .u64 256 (IntKind.u64.wrap (-256)) * 285870213051353865) / 288230376151711744 = 61 := by decide
    go_enter Tryd.func39, Tryd.ntmps39
    go_wp2
    go_ret
    exact ⟨rfl, rfl⟩
  · have e : IntKind.u64.wrap (bits .and .u64 512 (IntKind.u64.wrap (-512)) * 285870213051353865) / 288230376151711744 = 59 := by decide
    go_enter Tryd.func39, Tryd.ntmps39
    go_wp2
    go_ret
    exact ⟨rfl, rfl⟩
  · have e : IntKind.u64.wrap (bits .and .u64 1024 (IntKind.u64.wrap (-1024)) * 285870213051353865) / 288230376151711744 = 55 := by decide
    go_enter Tryd.func39, Tryd.ntmps39
    go_wp2
    go_ret
    exact ⟨rfl, rfl⟩
  · have e : IntKind.u64.wrap (bits .and .u64 2048 (IntKind.u64.wrap (-2048)) * 285870213051353865) / 288230376151711744 = 47 := by decide
    go_enter Tryd.func39, Tryd.ntmps39
    go_wp2
    go_ret
    exact ⟨rfl, rfl⟩
  · have e : IntKind.u64.wrap (bits .and .u64 4096 (IntKind.u64.wrap (-4096)) * 285870213051353865) / 288230376151711744 = 30 := by decide
    go_enter Tryd.func39, Tryd.ntmps39
    go_wp2
    go_ret
    exact ⟨rfl, rfl⟩

/-- What a piece's test holds from block S on: the rule, m, the number, the count, each in a block of its own. -/
structure Tst (w : World) (S : Nat) (a m x : Int) (n h : Nat) : Prop where
  cr : w.heap[S]? = some (.cells #[.int .i64 a, .int .i64 m, .int .i64 x] 23 (0, 0))
  cm : w.heap[S + 1]? = some (.cells #[.int .i64 (pwr m : Nat)] 3 (0, 0))
  ch : w.heap[S + 2]? = some (.cells #[.int .u64 (h : Nat)] 79 (0, 0))
  cn : w.heap[S + 3]? = some (.cells #[.int .i64 (n : Nat)] 3 (0, 0))
def tstV (S : Nat) : Value := .func (.func 40) #[] #[.pointer (some ⟨S + 2, 0, none⟩), .pointer (some ⟨S + 3, 0, none⟩), .pointer (some ⟨S, 0, none⟩), .pointer (some ⟨S + 1, 0, none⟩)]
/-- The world behind one byte. -/
def tstW (w : World) (S n h q : Nat) : World := ((w.drewN q).setCell ⟨S + 2, 0, none⟩ (.int .u64 (h : Nat))).setCell ⟨S + 3, 0, none⟩ (.int .i64 (n : Nat))

theorem div_zero_iff (r k : Nat) : ((r : Int) / 2 ^ k == 0) = decide (r < 2 ^ k) := by
  have h : ((2 : Int) ^ k) = ((2 ^ k : Nat) : Int) := by simp
  have hp : 0 < 2 ^ k := Nat.two_pow_pos k
  rw [h, ← Int.natCast_ediv, Bool.eq_iff_iff, beq_iff_eq, decide_eq_true_iff, ← Nat.div_eq_zero_iff_lt hp]
  omega
section
variable {a m x : Int} {n r p : Nat}
theorem ends_t (h : x ≤ (n : Int) + 1) : true = Gear.ends a m x (n + 1) r := by
  unfold Gear.ends
  rw [if_pos (by omega)]
theorem ends_f (h1 : (n : Int) + 1 < x) (h2 : (n : Int) + 1 < a) : false = Gear.ends a m x (n + 1) r := by
  unfold Gear.ends
  rw [if_neg (by omega), if_pos (by omega)]
theorem ends_lo (hp : Hid (∀ _ : Unit, pwr m = p)) (h1 : (n : Int) + 1 < x) (h2 : a ≤ (n : Int) + 1) (h3 : (n : Int) + 1 < m) : ((r : Int) / 2 ^ (63 - p) == 0) = Gear.ends a m x (n + 1) r := by
  unfold Gear.ends Gear.places
  rw [if_neg (by omega), if_neg (by omega), if_pos (by omega), hp.out (), div_zero_iff]
theorem ends_hi (hp : Hid (∀ _ : Unit, pwr m = p)) (h1 : (n : Int) + 1 < x) (h2 : a ≤ (n : Int) + 1) (h3 : m ≤ (n : Int) + 1) : ((r : Int) / 2 ^ (65 - p) == 0) = Gear.ends a m x (n + 1) r := by
  unfold Gear.ends Gear.places
  rw [if_neg (by omega), if_neg (by omega), if_neg (by omega), hp.out (), div_zero_iff]
end

set_option maxRecDepth 20000 in
set_option maxHeartbeats 1000000 in
theorem clo_any (S : Nat) (a m x : Int) (n h b : Nat) (w : World) (ok : okRule a m x) (ht : Tst w S a m x n h) (hb : b < 256) (hn : n ≤ 140737488355328) :
    Calls Tryd.prog 40 #[.int .u8 b, .pointer (some ⟨S + 2, 0, none⟩), .pointer (some ⟨S + 3, 0, none⟩), .pointer (some ⟨S, 0, none⟩), .pointer (some ⟨S + 1, 0, none⟩)] w
      fun e w' => e = .returned (.bool (Gear.ends a m x (n + 1) (Gear.roll h b))) ∧ ∃ q, w' = tstW w S (n + 1) (Gear.roll h b) q := by
  have c0 := cell_of_row w S 0 _ _ _ ht.cr
  have c1 := cell_of_row w S 1 _ _ _ ht.cr
  have c2 := cell_of_row w S 2 _ _ _ ht.cr
  simp at c0 c1 c2
  have cm := cell_of_one ht.cm
  have ch := cell_of_one ht.ch
  have cn := cell_of_one ht.cn
  have fh := free_of_one ht.ch
  have fn := free_of_one ht.cn
  clear ht
  have hp := pwr_pos ok.2.2.2.2
  obtain ⟨p, hpp⟩ : ∃ p, Hid (∀ _ : Unit, pwr m = p) := ⟨_, Lib.hid fun _ => rfl⟩
  rw [hpp.out ()] at cm hp
  obtain ⟨hp1, hp2, -⟩ := hp
  have ok' := Lib.hid ok
  clear ok
  obtain ⟨z, hz⟩ : ∃ z, Hid (∀ _ : Unit, wordN b = z) := ⟨_, Lib.hid fun _ => rfl⟩
  have hz2 : z < 18446744073709551616 := by rw [← hz.out ()]; exact wordN_lt b
  have hw := Lib.hid fun W => word_any b W hb
  simp only [hz.out ()] at hw
  obtain ⟨r, hr⟩ : ∃ r, Hid (∀ _ : Unit, Gear.roll h b = r) := ⟨_, Lib.hid fun _ => rfl⟩
  have e1 : IntKind.u64.wrap (IntKind.u64.wrap ((h : Int) * 2) + z) = (r : Int) := by
    rw [← hr.out ()]
    unfold Gear.roll
    rw [hz.out (), IntKind.wrap_u64, IntKind.wrap_u64]
    omega
  rw [hr.out ()]
  go_enter Tryd.func40, Tryd.ntmps40
  go_wp2_with fail
  go_region_with (go_at_call 41; refine (hw.out _).mono ?_; rintro e w' ⟨rfl, rfl⟩)
  all_goals go_wp2_with fail
  all_goals go_ret
  all_goals refine ⟨ret_bool ?_, 1, rfl⟩
  all_goals first
    | exact ends_t (by assumption)
    | exact ends_f (by assumption) (by assumption)
    | exact ends_lo hpp (by assumption) (by assumption) (by assumption)
    | exact ends_hi hpp (by assumption) (by assumption) (by assumption)

section
variable {w w' : World} {S : Nat} {a m x : Int} {n h : Nat}
theorem Tst.keep (t : Tst w S a m x n h) (hk : ∀ k, S ≤ k → k < S + 4 → w'.heap[k]? = w.heap[k]?) : Tst w' S a m x n h :=
  ⟨(hk _ (by omega) (by omega)).trans t.cr, (hk _ (by omega) (by omega)).trans t.cm, (hk _ (by omega) (by omega)).trans t.ch, (hk _ (by omega) (by omega)).trans t.cn⟩
theorem Tst.lt (t : Tst w S a m x n h) : S + 3 < w.heap.size := lt_of_block t.cn
theorem Tst.below (t : Tst w S a m x n h) {B : Nat} (hb : Below B w w') (hB : S + 4 ≤ B) : Tst w' S a m x n h := t.keep fun k _ h2 => hb.block k (by omega)
theorem Tst.step (t : Tst w S a m x n h) (n' h' q : Nat) : Tst (tstW w S n' h' q) S a m x n' h' := by
  have t1 : Tst (w.drewN q) S a m x n h := ⟨t.cr, t.cm, t.ch, t.cn⟩
  unfold tstW
  exact ⟨(Below.heap_setCell _ _ _ _ (by show S ≠ S + 3; omega)).trans ((Below.heap_setCell _ _ _ _ (by show S ≠ S + 2; omega)).trans t1.cr),
    (Below.heap_setCell _ _ _ _ (by show S + 1 ≠ S + 3; omega)).trans ((Below.heap_setCell _ _ _ _ (by show S + 1 ≠ S + 2; omega)).trans t1.cm),
    (Below.heap_setCell _ _ _ _ (by show S + 2 ≠ S + 3; omega)).trans (one_setCell t1.ch),
    one_setCell ((Below.heap_setCell _ _ _ _ (by show S + 3 ≠ S + 2; omega)).trans t1.cn)⟩
theorem tstW_below (w : World) (S n' h' q B : Nat) (hB : B ≤ S + 2) : Below B w (tstW w S n' h' q) := by
  unfold tstW
  exact ((below_drewN (Below.refl B w) q).setCell (by show B ≤ S + 2; omega) _).setCell (by show B ≤ S + 3; omega) _
theorem tstW_block (w : World) (S n' h' q k : Nat) (h2 : k ≠ S + 2) (h3 : k ≠ S + 3) : (tstW w S n' h' q).heap[k]? = w.heap[k]? := by
  unfold tstW
  exact (Below.heap_setCell _ _ _ _ (by show k ≠ S + 3; exact h3)).trans (Below.heap_setCell _ _ _ _ (by show k ≠ S + 2; exact h2))
end

set_option maxRecDepth 20000 in
set_option maxHeartbeats 1000000 in
theorem ends_any (a m x : Int) (w : World) (ok : okRule a m x) (hT : Tz w) :
    Calls Tryd.prog 31 #[.agg #[.int .i64 a, .int .i64 m, .int .i64 x]] w fun e w' => e = .returned (tstV w.heap.size) ∧ Tst w' w.heap.size a m x 0 0 ∧ Below w.heap.size w w' ∧ w'.heap.size = w.heap.size + 4 := by
  have hp := ok.2.2.2.2
  have hm := pwr_pos hp
  obtain ⟨hm1, hm2⟩ := pw_range hp
  clear hm
  have t0 := Lib.hid fun W (h : Tz W) => tz_any m W hp h
  have hT' := Lib.hid hT
  clear hT hp ok
  go_enter Tryd.func31, Tryd.ntmps31
  go_wp2_with (go_at_call 39; refine (t0.out _ (hT'.out.below ((Below.refl _ w).alloc (Nat.le_refl _) _))).mono ?_; rintro e w' ⟨rfl, rfl⟩)
  go_ret
  have hb : ∀ (o1 o2 o3 o4 : Obj), Below w.heap.size w ((((w.alloc o1).alloc o2).alloc o3).alloc o4) := fun o1 o2 o3 o4 =>
    (((((Below.refl _ w).alloc (Nat.le_refl _) o1).alloc (by simp) o2).alloc (by simp <;> omega) o3).alloc (by simp <;> omega) o4)
  refine ⟨rfl, ?_, hb _ _ _ _, by simp⟩
  have hn : ∀ (W : World) (o : Obj) (k : Nat), k = W.heap.size → (W.alloc o).heap[k]? = some o := fun W o k hk => by subst hk; exact heap_alloc_new W o
  have ho : ∀ (W : World) (o : Obj) (k : Nat), k < W.heap.size → (W.alloc o).heap[k]? = W.heap[k]? := fun W o k hk => Below.heap_alloc W o k hk
  refine ⟨?_, ?_, ?_, ?_⟩
  · rw [ho _ _ _ (by simp <;> omega), ho _ _ _ (by simp <;> omega), ho _ _ _ (by simp), hn _ _ _ rfl]
  · rw [ho _ _ _ (by simp <;> omega), ho _ _ _ (by simp), hn _ _ _ (by simp)]
  · rw [ho _ _ _ (by simp), hn _ _ _ (by simp)]
    rfl
  · rw [hn _ _ _ (by simp)]
    rfl
end Go.Proofs.YtnjbpacnmiimlaaDoor

/- Cut on both sides: the lengths of all pieces. -/
import Derived.Test.YtnjbpacnmiimlaaDoorGearR
namespace Go.Proofs.YtnjbpacnmiimlaaDoor
open Go.RowKit

theorem cut_on {a m x : Int} (ok : okRule a m x) {l ls : List Nat} {p L n : Nat} (hlen : l.length = L) (hp : p < L) (hn : (Gear.scan a m x 0 0 (l.drop p)).1 = n) (h : Gear.cut a m x l = ls ++ Gear.cut a m x (l.drop p)) :
    Gear.cut a m x l = (ls ++ [n]) ++ Gear.cut a m x (l.drop (p + n)) ∧ 0 < n ∧ p + n ≤ L := by
  have hne : l.drop p ≠ [] := by
    intro e
    have := congrArg List.length e
    simp at this
    omega
  have h1 := Gear.scan_le a m x (l.drop p) 0 0
  rw [hn, List.length_drop] at h1
  refine ⟨?_, h1.2.2 hne, by omega⟩
  rw [h, Gear.cut_step ok hne, hn, List.drop_drop, List.append_assoc]
  rfl
/-- s[lo:]: the address. -/
def cutA (A : Option Addr) (k cap : Nat) : Option Addr := if cap = k then A else A.map (·.add k)
theorem slice_from (A : Option Addr) (L c : Nat) (k : Nat) (hk : k ≤ L) (W : World) :
    (Instr.slice 24 (.slice A L c) (some (.int .i64 (k : Int))) none none).run Tryd.prog W = .ok (.slice (cutA A k c) (L - k) (c - k)) W := by
  have hs : (sizeOf (Tryd.prog.elem 24)).run Tryd.prog W = .ok 1 W := by kernel_rfl
  rw [run_slice_l W 24 _ L c (by rw [Tryd.underlying24]; kernel_rfl) .i64 (k : Int) (by omega) (by omega), hs]
  simp only [Result.andThen, sliced, Int.toNat_natCast, cutA, Nat.mul_one]

def lenV : Value → Nat
  | .slice _ n _ => n
  | _ => 0

set_option maxRecDepth 20000 in
set_option maxHeartbeats 1000000 in
theorem cut_any (a m x : Int) (l : List Nat) (A : Option Addr) (c L : Nat) (w : World) (hlen : l.length = L) (hl : ∀ b ∈ l, b < 256) (hL : L ≤ 4194304) (hc : L ≤ c) (hA : Byt w w.heap.size A l) (hT : Tz w) :
    Calls Tryd.prog 12 #[.agg #[.int .i64 a, .int .i64 m, .int .i64 x], .slice A L c] w fun e w' => (∃ A' c', e = .returned (.tuple #[.slice A' (Gear.cut a m x l).length c', .int .i64 (chk a m x)]) ∧ Own w' w.heap.size 3 1 A' (Gear.cut a m x l).length c' (i64s (Gear.cut a m x l))) ∧ Below w.heap.size w w' := by
  have hlen' := Lib.hid hlen
  have hl' := Lib.hid hl
  have hA' := Lib.hid hA
  have hT' := Lib.hid hT
  obtain ⟨c0, c1, c2⟩ := box3 w a m x
  have hb0 := Lib.hid ((Below.refl w.heap.size w).alloc (Nat.le_refl _) (.cells #[.int .i64 a, .int .i64 m, .int .i64 x] 23))
  clear hlen hl hA hT
  by_cases ok : okRule a m x
  · have ck := chk_ok ok
    rw [ck]
    have ok' := Lib.hid ok
    clear ok
    go_enter Tryd.func12, Tryd.ntmps12
    go_wp2_with (go_at_call 23; refine (check_any a m x _).mono ?_; rw [ck]; rintro e w1 ⟨rfl, hb1⟩)
    have d0 := (hb1.cell (p := ⟨w.heap.size, 0, none⟩) (by simp)).trans c0
    have d1 := (hb1.cell (p := ⟨w.heap.size, 1, none⟩) (by simp)).trans c1
    have d2 := (hb1.cell (p := ⟨w.heap.size, 2, none⟩) (by simp)).trans c2
    have hB1 := Lib.hid (hb0.out.trans (hb1.mono (by simp)))
    have hP1 : w.heap.size + 1 ≤ w1.heap.size := by have := hb1.size; simpa using this
    clear hb1 c0 c1 c2
    go_loopw [1, 7] (fun dv ov wr => ∃ (p j q cq : Nat) (ls : List Nat) (A3 A4 : Option Addr) (c3 : Nat), p + q = L ∧ q ≤ cq ∧ j ≤ p ∧ dv = .slice A4 q cq ∧ ov = .slice A3 j c3 ∧ Hid (Own wr (w.heap.size + 1) 3 1 A3 j c3 (i64s ls)) ∧ Hid (Byt wr w.heap.size A4 (l.drop p)) ∧ Hid (Below w.heap.size w wr) ∧ w.heap.size + 1 ≤ wr.heap.size ∧ wr.cell? ⟨w.heap.size, 0, none⟩ = some (.int .i64 a) ∧ wr.cell? ⟨w.heap.size, 1, none⟩ = some (.int .i64 m) ∧ wr.cell? ⟨w.heap.size, 2, none⟩ = some (.int .i64 x) ∧ Hid (∀ _ : Unit, Gear.cut a m x l = ls ++ Gear.cut a m x (l.drop p))) (fun dv _ _ => lenV dv)
    case atStart => exact ⟨0, 0, L, c, [], none, A, 0, by omega, hc, by omega, rfl, rfl, Lib.hid (Own.nil _ _ _ _), Lib.hid (hA'.out.below hB1.out), hB1, hP1, d0, d1, d2, Lib.hid fun _ => rfl⟩
    case round =>
      clear hB1 d0 d1 d2 hP1
      obtain ⟨p, j, q, cq, ls, A3, A4, c3, hpq, hq, hj, rfl, rfl, hown, hr, hbel, hP, d0, d1, d2, hcut⟩ := hrel
      by_cases h0 : q = 0
      · subst h0
        have hls : Hid (∀ _ : Unit, ls = Gear.cut a m x l ∧ j = (Gear.cut a m x l).length) := Lib.hid fun _ => by
          have h1 := hcut.out ()
          have h2 : l.drop p = [] := List.drop_eq_nil_of_le (by rw [hlen'.out]; omega)
          rw [h2, Gear.cut_nil, List.append_nil] at h1
          have h3 := hown.out.len
          rw [i64s_length] at h3
          exact ⟨h1.symm, by rw [h1]; omega⟩
        go_wp2_with fail
        go_ret2
        obtain ⟨e1, e2⟩ := hls.out ()
        subst e2
        rw [e1] at hown
        exact ⟨⟨A3, c3, rfl, hown.out.base (by omega)⟩, hbel.out⟩
      · obtain ⟨n, hn⟩ : ∃ n, (Gear.scan a m x 0 0 (l.drop p)).1 = n := ⟨_, rfl⟩
        have hf := first_any a m x (l.drop p) A4 cq q wr (by rw [List.length_drop, hlen'.out]; omega) (fun y hy => hl'.out y (List.mem_of_mem_drop hy)) (by omega) (hr.out.mono (by omega)) (hT'.out.below hbel.out)
        rw [Gear.first_ok ok'.out, hn] at hf
        obtain ⟨hc2, hn0, hnL⟩ := cut_on ok'.out hlen'.out (by omega) hn (hcut.out ())
        have hc2' := Lib.hid fun _ : Unit => hc2
        have hf' := Lib.hid hf
        have hsl := fun W => slice_from A4 q cq n (by omega) W
        have hrn : Hid (Byt wr w.heap.size (cutA A4 n cq) (l.drop (p + n))) := Lib.hid (by
          have := hr.out.cut (k := n) (cap := cq) (by rw [List.length_drop, hlen'.out]; omega) (by rw [List.length_drop, hlen'.out]; omega)
          rw [List.drop_drop] at this
          exact this)
        clear hf hc2 hn hcut hr
        go_wp2_with (first
          | (go_at_call 11; refine hf'.out.mono ?_; rintro e w3 ⟨rfl, hb3⟩; have hown3 := hown.out.below hb3 (fun k hk => (hown.out.lt k hk).2); have hsz3 := hb3.size)
          | (at_builtin; go_loud (refine wpList_app1 elI _ #[_] rfl rfl _ _ rfl rfl hown3 rfl (by intro u hu; simp at hu; subst hu; rfl) (by unfold maxLen; omega) (by omega) (by omega) (j + 1) rfl _ rfl ?_); intro A5 c5 w5 hown5 _ hb5))
        have hb35 : Below (w.heap.size + 1) wr w5 := (hb3.mono hP).trans hb5
        have hsz5 := hb35.size
        go_roundw
        case rel => exact ⟨p + n, j + 1, q - n, cq - n, ls ++ [n], A5, _, c5, by omega, by omega, by omega, rfl, rfl, Lib.hid (by rw [i64s_append]; exact hown5), Lib.hid (hrn.out.below (hb35.mono (by omega))), Lib.hid (hbel.out.trans (hb35.mono (by omega))), by omega, (hb35.cell (p := ⟨w.heap.size, 0, none⟩) (by simp)).trans d0, (hb35.cell (p := ⟨w.heap.size, 1, none⟩) (by simp)).trans d1, (hb35.cell (p := ⟨w.heap.size, 2, none⟩) (by simp)).trans d2, hc2'⟩
        case measure => simp [lenV]; omega
  · have ck := chk_no ok
    rw [ck, Gear.cut_no ok]
    clear ok
    go_enter Tryd.func12, Tryd.ntmps12
    go_wp2_with (go_at_call 23; refine (check_any a m x _).mono ?_; rw [ck]; rintro e w1 ⟨rfl, hb1⟩)
    go_ret2
    exact ⟨⟨none, 0, rfl, Own.nil _ _ _ _⟩, hb0.out.trans (hb1.mono (by simp))⟩

set_option maxRecDepth 20000 in
set_option maxHeartbeats 1000000 in
theorem refCut_any (a m x : Int) (l : List Nat) (A : Option Addr) (c L : Nat) (w : World) (hlen : l.length = L) (hl : ∀ b ∈ l, b < 256) (hL : L ≤ 4194304) (hc : L ≤ c) (hA : Byt w w.heap.size A l) :
    Calls Tryd.prog 9 #[.agg #[.int .i64 a, .int .i64 m, .int .i64 x], .slice A L c] w fun e w' => (∃ A' c', e = .returned (.tuple #[.slice A' (Gear.cut a m x l).length c', .int .i64 (chk a m x)]) ∧ Own w' w.heap.size 3 1 A' (Gear.cut a m x l).length c' (i64s (Gear.cut a m x l))) ∧ Below w.heap.size w w' := by
  have hlen' := Lib.hid hlen
  have hl' := Lib.hid hl
  have hA' := Lib.hid hA
  obtain ⟨c0, c1, c2⟩ := box3 w a m x
  have hb0 := Lib.hid ((Below.refl w.heap.size w).alloc (Nat.le_refl _) (.cells #[.int .i64 a, .int .i64 m, .int .i64 x] 23))
  clear hlen hl hA
  by_cases ok : okRule a m x
  · have ck := chk_ok ok
    rw [ck]
    have ok' := Lib.hid ok
    clear ok
    go_enter Tryd.func9, Tryd.ntmps9
    go_wp2_with (go_at_call 26; refine (refCheck_any a m x _).mono ?_; rw [ck]; rintro e w1 ⟨rfl, hb1⟩)
    have d0 := (hb1.cell (p := ⟨w.heap.size, 0, none⟩) (by simp)).trans c0
    have d1 := (hb1.cell (p := ⟨w.heap.size, 1, none⟩) (by simp)).trans c1
    have d2 := (hb1.cell (p := ⟨w.heap.size, 2, none⟩) (by simp)).trans c2
    have hB1 := Lib.hid (hb0.out.trans (hb1.mono (by simp)))
    have hP1 : w.heap.size + 1 ≤ w1.heap.size := by have := hb1.size; simpa using this
    clear hb1 c0 c1 c2
    go_loopw [6, 7] (fun ov iv wr => ∃ (p j : Nat) (ls : List Nat) (A3 : Option Addr) (c3 : Nat), p ≤ L ∧ j ≤ p ∧ iv = .int .i64 (p : Int) ∧ ov = .slice A3 j c3 ∧ Hid (Own wr (w.heap.size + 1) 3 1 A3 j c3 (i64s ls)) ∧ Hid (Below w.heap.size w wr) ∧ w.heap.size + 1 ≤ wr.heap.size ∧ wr.cell? ⟨w.heap.size, 0, none⟩ = some (.int .i64 a) ∧ wr.cell? ⟨w.heap.size, 1, none⟩ = some (.int .i64 m) ∧ wr.cell? ⟨w.heap.size, 2, none⟩ = some (.int .i64 x) ∧ Hid (∀ _ : Unit, Gear.cut a m x l = ls ++ Gear.cut a m x (l.drop p))) (fun _ iv _ => L - (intOf iv).toNat)
    case atStart => exact ⟨0, 0, [], none, 0, by omega, by omega, rfl, rfl, Lib.hid (Own.nil _ _ _ _), hB1, hP1, d0, d1, d2, Lib.hid fun _ => rfl⟩
    case round =>
      clear hB1 d0 d1 d2 hP1
      obtain ⟨p, j, ls, A3, c3, hp, hj, rfl, rfl, hown, hbel, hP, d0, d1, d2, hcut⟩ := hrel
      by_cases h0 : p = L
      · subst h0
        have hls : Hid (∀ _ : Unit, ls = Gear.cut a m x l ∧ j = (Gear.cut a m x l).length) := Lib.hid fun _ => by
          have h1 := hcut.out ()
          have h2 : l.drop p = [] := List.drop_eq_nil_of_le (by rw [hlen'.out]; exact Nat.le_refl _)
          rw [h2, Gear.cut_nil, List.append_nil] at h1
          have h3 := hown.out.len
          rw [i64s_length] at h3
          exact ⟨h1.symm, by rw [h1]; omega⟩
        go_wp2_with fail
        go_ret2
        obtain ⟨e1, e2⟩ := hls.out ()
        subst e2
        rw [e1] at hown
        exact ⟨⟨A3, c3, rfl, hown.out.base (by omega)⟩, hbel.out⟩
      · have hpL : p < L := by omega
        clear h0
        obtain ⟨n, hn⟩ : ∃ n, (Gear.scan a m x 0 0 (l.drop p)).1 = n := ⟨_, rfl⟩
        obtain ⟨hc2, hn0, hnL⟩ := cut_on ok'.out hlen'.out hpL hn (hcut.out ())
        have hc2' := Lib.hid fun _ : Unit => hc2
        have hsl := fun W => slice_from A L c p (by omega) W
        have hf' := Lib.hid fun W (hW : Below wr.heap.size wr W) => by
          have h1 := hbel.out.trans (hW.mono hbel.out.size)
          have h2 := refFirst_any a m x (l.drop p) (cutA A p c) (c - p) (L - p) W (by rw [List.length_drop, hlen'.out]) (fun y hy => hl'.out y (List.mem_of_mem_drop hy)) (by omega) (by omega) ((((hA'.out.cut (k := p) (cap := c) (by rw [hlen'.out]; omega) (by rw [hlen'.out]; omega)).below h1)).mono h1.size)
          rw [Gear.first_ok ok'.out, hn] at h2
          exact h2
        clear hc2 hn hcut
        go_wp2_with fail
        go_region_held3 (fun w' => Below wr.heap.size wr w' ∧ w'.cell? ⟨w.heap.size, 0, none⟩ = some (.int .i64 a) ∧ w'.cell? ⟨w.heap.size, 1, none⟩ = some (.int .i64 m) ∧ w'.cell? ⟨w.heap.size, 2, none⟩ = some (.int .i64 x))
          (first | exact ⟨below_drewN (Below.refl _ _) 1, d0, d1, d2⟩ | exact keep3 hb ⟨Below.refl _ _, d0, d1, d2⟩ | exact keep3 hb (by assumption) | assumption)
          (first | (go_at_call 8; refine (hf'.out _ (And.left (by assumption))).mono ?_; rintro e w' ⟨rfl, hb⟩))
        rename_i hH
        have hH' := Lib.hid hH.1
        have hown3 := hown.out.below hH.1 (fun k hk => (hown.out.lt k hk).2)
        have hsz3 := hH.1.size
        obtain ⟨-, d0', d1', d2'⟩ := hH
        clear hb d0 d1 d2 hf'
        go_wp2_with (at_builtin; go_loud (refine wpList_app1 elI _ #[_] rfl rfl _ _ rfl rfl hown3 rfl (by intro u hu; simp at hu; subst hu; rfl) (by unfold maxLen; omega) (by omega) (by omega) (j + 1) rfl _ rfl ?_); intro A5 c5 w5 hown5 _ hb5)
        have hb35 : Below (w.heap.size + 1) wr w5 := (hH'.out.mono hP).trans hb5
        have hsz5 := hb35.size
        go_roundw
        case rel => exact ⟨p + n, j + 1, ls ++ [n], A5, c5, by omega, by omega, by go_num, rfl, Lib.hid (by rw [i64s_append]; exact hown5), Lib.hid (hbel.out.trans (hb35.mono (by omega))), by omega, (hb5.cell (p := ⟨w.heap.size, 0, none⟩) (by simp)).trans d0', (hb5.cell (p := ⟨w.heap.size, 1, none⟩) (by simp)).trans d1', (hb5.cell (p := ⟨w.heap.size, 2, none⟩) (by simp)).trans d2', hc2'⟩
        case measure => simp [intOf]; omega
  · have ck := chk_no ok
    rw [ck, Gear.cut_no ok]
    clear ok
    go_enter Tryd.func9, Tryd.ntmps9
    go_wp2_with (go_at_call 26; refine (refCheck_any a m x _).mono ?_; rw [ck]; rintro e w1 ⟨rfl, hb1⟩)
    go_ret2
    exact ⟨⟨none, 0, rfl, Own.nil _ _ _ _⟩, hb0.out.trans (hb1.mono (by simp))⟩
end Go.Proofs.YtnjbpacnmiimlaaDoor

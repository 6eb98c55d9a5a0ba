/- GearStreams: the document's Whole. -/
import Derived.Test.YtnjbpacnmiimlaaDoorGtWr
import Derived.Test.YtnjbpacnmiimlaaDoorGpS
import Derived.BigQuiet
namespace Go.Proofs.YtnjbpacnmiimlaaDoor
open Go.RowKit
namespace Gear
variable {a m x : Int}
theorem puts_miss : ∀ (l h : List Nat), (scan a m x h.length (rolls h) l).2 = false → puts a m x ([], h) l = ([], h ++ l)
  | [], h, _ => by simp [puts]
  | b :: t, h, hs => by
    by_cases he : ends a m x (h.length + 1) (roll (rolls h) b) = true
    · rw [scan_hit he] at hs
      cases hs
    · rw [scan_miss he] at hs
      have e : (h ++ [b]).length = h.length + 1 := by simp
      have ih := puts_miss t (h ++ [b]) (by rw [e, rolls_snoc]; exact hs)
      rw [puts, put1_miss (s := ([], h)) he, ih]
      simp
theorem puts_hit : ∀ (l h : List Nat), (scan a m x h.length (rolls h) l).2 = true → puts a m x ([], h) l = ((h ++ l.take ((scan a m x h.length (rolls h) l).1 - h.length)) :: (puts a m x ([], []) (l.drop ((scan a m x h.length (rolls h) l).1 - h.length))).1, (puts a m x ([], []) (l.drop ((scan a m x h.length (rolls h) l).1 - h.length))).2)
  | [], h, hs => by simp [scan] at hs
  | b :: t, h, hs => by
    by_cases he : ends a m x (h.length + 1) (roll (rolls h) b) = true
    · rw [scan_hit he, puts, put1_hit (s := ([], h)) he, puts_front]
      have e : h.length + 1 - h.length = 1 := by omega
      simp only [e, List.take_succ_cons, List.take_zero, List.drop_succ_cons, List.drop_zero, List.nil_append, List.cons_append]
    · rw [scan_miss he] at hs ⊢
      have e : (h ++ [b]).length = h.length + 1 := by simp
      have ih := puts_hit t (h ++ [b]) (by rw [e, rolls_snoc]; exact hs)
      rw [e, rolls_snoc] at ih
      rw [puts, put1_miss (s := ([], h)) he]
      show puts a m x ([], h ++ [b]) t = _
      rw [ih]
      have hle := (scan_le a m x t (h.length + 1) (roll (rolls h) b)).1
      obtain ⟨d, hd⟩ : ∃ d, (scan a m x (h.length + 1) (roll (rolls h) b) t).1 = h.length + 1 + d := ⟨(scan a m x (h.length + 1) (roll (rolls h) b) t).1 - (h.length + 1), by omega⟩
      rw [hd, show h.length + 1 + d - (h.length + 1) = d by omega, show h.length + 1 + d - h.length = d + 1 by omega]
      simp
/-- The pieces whose end is found, and what is left. -/
def whole (a m x : Int) (l : List Nat) : List (List Nat) × List Nat := if okRule a m x then puts a m x ([], []) l else ([], l)
theorem whole_held (ok : okRule a m x) {h : List Nat} (hs : (scan a m x 0 0 h).2 = false) (l : List Nat) : whole a m x (h ++ l) = puts a m x ([], h) l := by
  unfold whole
  rw [if_pos ok, puts_app, puts_miss h [] hs]
  simp
end Gear

theorem blockOf_cutA (A : Option Addr) (p c : Nat) : blockOf (cutA A p c) = blockOf A := by
  unfold cutA
  split
  · rfl
  · cases A with
    | none => rfl
    | some a =>
      obtain ⟨b, o, i⟩ := a
      cases i with
      | none => simp only [blockOf, Addr.add, Option.map_some]; split <;> rfl
      | some j => simp only [blockOf, Addr.add, Option.map_some]; split <;> rfl
/-- What Whole tells. -/
def WhP (w : World) (a m x : Int) (l : List Nat) (A : Option Addr) (L c : Nat) (e : Ending) (w' : World) : Prop :=
  ∃ (zs : List Pt) (Ao : Option Addr) (co p q : Nat), e = .returned (.tuple #[.slice Ao zs.length co, .slice (cutA A p c) q (c - p)]) ∧ p + q = L ∧ (zs.map Pt.l, l.drop p) = Gear.whole a m x l ∧ Own w' w.heap.size 24 1 Ao zs.length co (zs.map Pt.v) ∧
    (∀ z ∈ zs, Byt w' w.heap.size z.A z.l ∧ blockOf z.A = blockOf A) ∧ Below w.heap.size w w'

set_option maxRecDepth 20000 in
set_option maxHeartbeats 2000000 in
theorem refWhole_any (a m x : Int) (l : List Nat) (A : Option Addr) (c L : Nat) (w : World) (hlen : l.length = L) (hl : ∀ b ∈ l, b < 256) (hL : L ≤ 4194304) (hc : L ≤ c) (hA : Byt w w.heap.size A l) :
    Calls Tryd.prog 27 #[.agg #[.int .i64 a, .int .i64 m, .int .i64 x], .slice A L c] w (WhP w a m x l A L c) := by
  have hlen' := Lib.hid hlen
  have hl' := Lib.hid hl
  have hA' := Lib.hid hA
  obtain ⟨c0, c1, c2⟩ := box3 w a m x
  have hb0 := Lib.hid ((Below.refl w.heap.size w).alloc (Nat.le_refl _) (.cells #[.int .i64 a, .int .i64 m, .int .i64 x] 23))
  have hsz : Hid (w.heap.size + 1 ≤ (w.alloc (.cells #[.int .i64 a, .int .i64 m, .int .i64 x] 23)).heap.size) := Lib.hid (by simp)
  clear hlen hl hA
  go_enter Tryd.func27, Tryd.ntmps27
  go_wp2_with fail
  generalize w.alloc (.cells #[.int .i64 a, .int .i64 m, .int .i64 x] 23) = w1 at c0 c1 c2 hb0 hsz ⊢
  go_loopw [6, 7] (fun ov iv wr => ∃ (p j : Nat) (Ao : Option Addr) (co : Nat) (zs : List Pt), p ≤ L ∧ j ≤ p ∧ iv = .int .i64 (p : Nat) ∧ ov = .slice Ao j co ∧ wr.cell? ⟨w.heap.size, 0, none⟩ = some (.int .i64 a) ∧ wr.cell? ⟨w.heap.size, 1, none⟩ = some (.int .i64 m) ∧ wr.cell? ⟨w.heap.size, 2, none⟩ = some (.int .i64 x) ∧
    Hid (zs.length = j) ∧ Hid (Own wr (w.heap.size + 1) 24 1 Ao j co (zs.map Pt.v)) ∧ Hid (∀ z ∈ zs, Byt wr w.heap.size z.A z.l ∧ blockOf z.A = blockOf A) ∧ Hid (Below (w.heap.size + 1) w1 wr) ∧ Hid (∀ _ : Unit, Gear.whole a m x l = (zs.map Pt.l ++ (Gear.whole a m x (l.drop p)).1, (Gear.whole a m x (l.drop p)).2))) (fun _ iv _ => L - (intOf iv).toNat)
  case atStart => exact ⟨0, 0, none, 0, [], by omega, by omega, rfl, rfl, c0, c1, c2, Lib.hid rfl, Lib.hid (Own.nil _ _ _ _), Lib.hid (by simp), Lib.hid (Below.refl _ _), Lib.hid fun _ => by simp⟩
  case round =>
    clear c0 c1 c2
    obtain ⟨p, j, Ao, co, zs, hp, hj, rfl, rfl, c0, c1, c2, hzl, hown, hbz, hbel, hwh⟩ := hrel
    have hBr := Lib.hid (hb0.out.trans (hbel.out.mono (Nat.le_succ _)))
    have hszr : w.heap.size + 1 ≤ wr.heap.size := Nat.le_trans hsz.out hbel.out.size
    obtain ⟨q, hq⟩ : ∃ q, L - p = q := ⟨_, rfl⟩
    have hAr : Byt wr w.heap.size A l := hA'.out.below hBr.out
    have hrp : Byt wr w.heap.size (cutA A p c) (l.drop p) := hAr.cut (k := p) (cap := c) (by rw [hlen'.out]; omega) (by rw [hlen'.out]; exact hc)
    have hdl : (l.drop p).length = q := by rw [List.length_drop, hlen'.out, hq]
    obtain ⟨n, f, hnf⟩ : ∃ n f, Gear.first a m x (l.drop p) = (n, f) := ⟨_, _, rfl⟩
    have hfc : Hid (∀ U : World, Below wr.heap.size wr U → Calls Tryd.prog 8 #[.agg #[.int .i64 a, .int .i64 m, .int .i64 x], .slice (cutA A p c) q (c - p)] U fun e w' => e = .returned (.tuple #[.int .i64 (n : Nat), .bool f]) ∧ Below U.heap.size U w') := Lib.hid fun U hU => by
      have := refFirst_any a m x (l.drop p) (cutA A p c) (c - p) q U hdl (fun y hy => hl'.out y (List.mem_of_mem_drop hy)) (by omega) (by omega) ((hrp.below (hU.mono (Nat.le_trans (Nat.le_succ _) hszr))).mono (Nat.le_trans (Nat.le_trans (Nat.le_succ _) hszr) hU.size))
      rw [hnf] at this
      exact this
    have hsl := fun W => slice_from A L c p hp W
    rw [hq] at hsl
    have hB0 : Hid (wr.cell? ⟨w.heap.size, 0, none⟩ = some (.int .i64 a) ∧ wr.cell? ⟨w.heap.size, 1, none⟩ = some (.int .i64 m) ∧ wr.cell? ⟨w.heap.size, 2, none⟩ = some (.int .i64 x) ∧ Below wr.heap.size wr wr) := Lib.hid ⟨c0, c1, c2, Below.refl _ _⟩
    have hkeep : Hid (∀ W W' : World, (W.cell? ⟨w.heap.size, 0, none⟩ = some (.int .i64 a) ∧ W.cell? ⟨w.heap.size, 1, none⟩ = some (.int .i64 m) ∧ W.cell? ⟨w.heap.size, 2, none⟩ = some (.int .i64 x) ∧ Below wr.heap.size wr W) → Below W.heap.size W W' → (W'.cell? ⟨w.heap.size, 0, none⟩ = some (.int .i64 a) ∧ W'.cell? ⟨w.heap.size, 1, none⟩ = some (.int .i64 m) ∧ W'.cell? ⟨w.heap.size, 2, none⟩ = some (.int .i64 x) ∧ Below wr.heap.size wr W')) := Lib.hid fun W W' h hb =>
      ⟨(hb.cell (World.block_lt_of_cell? _ _ h.1)).trans h.1, (hb.cell (World.block_lt_of_cell? _ _ h.2.1)).trans h.2.1, (hb.cell (World.block_lt_of_cell? _ _ h.2.2.1)).trans h.2.2.1, h.2.2.2.trans (hb.mono h.2.2.2.size)⟩
    clear c0 c1 c2 hAr
    go_wp2_with fail
    go_region_held3 (fun W => W.cell? ⟨w.heap.size, 0, none⟩ = some (.int .i64 a) ∧ W.cell? ⟨w.heap.size, 1, none⟩ = some (.int .i64 m) ∧ W.cell? ⟨w.heap.size, 2, none⟩ = some (.int .i64 x) ∧ Below wr.heap.size wr W)
      (first | exact hkeep.out _ _ hB0.out (below_drewN (Below.refl wr.heap.size wr) 1) | exact hkeep.out _ _ (by assumption) hb | assumption)
      (first
        | (go_at_call 8; refine (hfc.out _ (And.right (And.right (And.right (by assumption))))).mono ?_; rintro e w' ⟨rfl, hb⟩))
    rename_i hH
    have hC := Lib.hid hH
    clear hH hb hB0 hfc hkeep
    obtain ⟨c0, c1, c2, hbw⟩ := hC.out
    have hbw' := Lib.hid hbw
    have hown1 := Lib.hid (hown.out.below hbw fun k hk => (hown.out.lt k hk).2)
    have hbz1 : Hid (∀ z ∈ zs, Byt w' w.heap.size z.A z.l ∧ blockOf z.A = blockOf A) := Lib.hid fun z hz => ⟨(hbz.out z hz).1.below (hbw.mono (Nat.le_trans (Nat.le_succ _) hszr)), (hbz.out z hz).2⟩
    have hrp1 := Lib.hid (hrp.below (hbw.mono (Nat.le_trans (Nat.le_succ _) hszr)))
    have hbel1 := Lib.hid (hbel.out.trans (hbw.mono hszr))
    have hsw := hbw.size
    clear hown hbz hbel hrp hbw hC
    cases f
    · have hw0 : Hid (∀ _ : Unit, Gear.whole a m x l = (zs.map Pt.l, l.drop p)) := Lib.hid fun _ => by
        rw [hwh.out ()]
        have e : Gear.whole a m x (l.drop p) = ([], l.drop p) := by
          unfold Gear.whole
          by_cases ok : okRule a m x
          · rw [if_pos ok]
            rw [Gear.first_ok ok] at hnf
            have := Gear.puts_miss (a := a) (m := m) (x := x) (l.drop p) [] (by show (Gear.scan a m x 0 0 (l.drop p)).2 = false; rw [hnf])
            simpa using this
          · rw [if_neg ok]
        rw [e]
        simp
      have hzl2 := hzl.out
      subst hzl2
      clear hnf hwh c0 c1 c2
      go_wp2_with fail
      go_quiet (fail)
      go_wp2_with fail
      go_ret2
      refine ⟨zs, Ao, co, p, q, rfl, by omega, ?_, (hown1.out.base (Nat.le_succ _)).drewN _, fun z hz => ⟨Rd.drewN (hbz1.out z hz).1 _, (hbz1.out z hz).2⟩, below_drewN (hb0.out.trans (hbel1.out.mono (Nat.le_succ _))) _⟩
      rw [hw0.out ()]
    · have hok : okRule a m x := by
        by_cases ok : okRule a m x
        · exact ok
        · rw [Gear.first_no ok] at hnf
          cases hnf
      rw [Gear.first_ok hok] at hnf
      have hne : l.drop p ≠ [] := fun e => by
        rw [e] at hnf
        simp [Gear.scan] at hnf
      have hn1 := Gear.scan_le a m x (l.drop p) 0 0
      rw [hnf, hdl] at hn1
      obtain ⟨_, hn2, hn3⟩ := hn1
      have hn0 := hn3 hne
      simp only at hn2 hn0
      have hwn : Hid (∀ _ : Unit, Gear.whole a m x l = ((zs.map Pt.l ++ [(l.drop p).take n]) ++ (Gear.whole a m x (l.drop (p + n))).1, (Gear.whole a m x (l.drop (p + n))).2)) := Lib.hid fun _ => by
        rw [hwh.out ()]
        have e : Gear.whole a m x (l.drop p) = ((l.drop p).take n :: (Gear.whole a m x (l.drop (p + n))).1, (Gear.whole a m x (l.drop (p + n))).2) := by
          unfold Gear.whole
          rw [if_pos hok, if_pos hok]
          have h0 : Gear.scan a m x ([] : List Nat).length (Gear.rolls []) (l.drop p) = (n, true) := hnf
          have := Gear.puts_hit (a := a) (m := m) (x := x) (l.drop p) [] (by rw [h0])
          rw [h0] at this
          simpa [List.drop_drop] using this
        rw [e]
        simp
      have hbl : ((l.drop p).take n).length = n := by rw [List.length_take, hdl]; omega
      have hrn : Byt w' w.heap.size (cutA A p c) ((l.drop p).take n) := Byt.take hrp1.out n (by rw [hdl]; omega)
      obtain ⟨bd, hbd⟩ : ∃ bd, (l.drop p).take n = bd := ⟨_, rfl⟩
      rw [hbd] at hbl hrn
      have hbl' := Lib.hid hbl
      have hrn' := Lib.hid hrn
      have hwn' : Hid (∀ _ : Unit, Gear.whole a m x l = ((zs.map Pt.l ++ [bd]) ++ (Gear.whole a m x (l.drop (p + n))).1, (Gear.whole a m x (l.drop (p + n))).2)) := Lib.hid fun _ => by
        rw [← hbd]
        exact hwn.out ()
      have hs2 := fun W => gp_slice_mid A L c p (p + n) ((p : Int) + (n : Int)) (by omega) (by omega) (by omega) W
      rw [show p + n - p = n by omega] at hs2
      have hpn : p + n ≤ L := by omega
      clear hnf hwh hne hn3 hbl hrn hbd hwn hsl
      go_wp2_with (at_builtin; go_loud (refine wpList_app1 elS _ #[_] rfl rfl _ _ rfl rfl hown1.out rfl (by intro u hu; simp at hu; subst hu; rfl) (by unfold maxLen; omega) (by omega) (by omega) (j + 1) rfl _ rfl ?_); intro A5 c5 w5 o5 at5 b5)
      go_roundw
      case rel => exact ⟨p + n, j + 1, A5, c5, zs ++ [⟨cutA A p c, bd, c - p⟩], by omega, by omega, by go_num, rfl, (b5.cell (p := ⟨w.heap.size, 0, none⟩) (Nat.lt_succ_self _)).trans c0, (b5.cell (p := ⟨w.heap.size, 1, none⟩) (Nat.lt_succ_self _)).trans c1, (b5.cell (p := ⟨w.heap.size, 2, none⟩) (Nat.lt_succ_self _)).trans c2,
        Lib.hid (by rw [List.length_append, hzl.out]; rfl), Lib.hid (by rw [List.map_append]; simp only [List.map_cons, List.map_nil, Pt.v, hbl'.out]; exact o5), Lib.hid fun z hz => by
          rcases List.mem_append.1 hz with hz | hz
          · exact ⟨(hbz1.out z hz).1.below (b5.mono (Nat.le_succ _)), (hbz1.out z hz).2⟩
          · obtain rfl := List.mem_singleton.1 hz
            exact ⟨hrn'.out.below (b5.mono (Nat.le_succ _)), blockOf_cutA _ _ _⟩, Lib.hid (hbel1.out.trans b5), Lib.hid fun _ => by rw [List.map_append]; exact hwn'.out ()⟩
      case measure => simp [intOf]; omega
end Go.Proofs.YtnjbpacnmiimlaaDoor

/- gear.First: the first piece. -/
import Derived.Test.YtnjbpacnmiimlaaDoorGearE
import Derived.Deep.RegionHeld3
namespace Go.Proofs.YtnjbpacnmiimlaaDoor
open Go.RowKit

theorem box3 (w : World) (a m x : Int) : (w.alloc (.cells #[.int .i64 a, .int .i64 m, .int .i64 x] 23)).cell? ⟨w.heap.size, 0, none⟩ = some (.int .i64 a) ∧ (w.alloc (.cells #[.int .i64 a, .int .i64 m, .int .i64 x] 23)).cell? ⟨w.heap.size, 1, none⟩ = some (.int .i64 m) ∧ (w.alloc (.cells #[.int .i64 a, .int .i64 m, .int .i64 x] 23)).cell? ⟨w.heap.size, 2, none⟩ = some (.int .i64 x) := by
  have h := heap_alloc_new w (.cells #[.int .i64 a, .int .i64 m, .int .i64 x] 23)
  have c0 := cell_of_row _ w.heap.size 0 _ _ _ h
  have c1 := cell_of_row _ w.heap.size 1 _ _ _ h
  have c2 := cell_of_row _ w.heap.size 2 _ _ _ h
  exact ⟨c0, c1, c2⟩
theorem drop_get {l : List Nat} {k : Nat} (h : k < l.length) : l.drop k = l[k]?.getD 0 :: l.drop (k + 1) := by
  rw [List.drop_eq_getElem_cons h, List.getElem?_eq_getElem h]
  rfl
theorem ret_first {p q : Int} {s t : Bool} (h1 : p = q) (h2 : s = t) : Ending.returned (.tuple #[.int .i64 p, .bool s]) = .returned (.tuple #[.int .i64 q, .bool t]) := by rw [h1, h2]

set_option maxRecDepth 20000 in
set_option maxHeartbeats 1000000 in
theorem first_any (a m x : Int) (l : List Nat) (A : Option Addr) (c L : Nat) (w : World) (hlen : l.length = L) (hl : ∀ b ∈ l, b < 256) (hL : L ≤ 140737488355327) (hA : Byt w w.heap.size A l) (hT : Tz w) :
    Calls Tryd.prog 11 #[.agg #[.int .i64 a, .int .i64 m, .int .i64 x], .slice A L c] w fun e w' => e = .returned (.tuple #[.int .i64 ((Gear.first a m x l).1 : Nat), .bool (Gear.first a m x l).2]) ∧ Below w.heap.size w w' := by
  have hlen' := Lib.hid hlen
  have hl' := Lib.hid hl
  have hA' := Lib.hid hA
  have hT' := Lib.hid hT
  obtain ⟨c0, c1, c2⟩ := box3 w a m x
  have hb0 := Lib.hid ((Below.refl w.heap.size w).alloc (Nat.le_refl _) (.cells #[.int .i64 a, .int .i64 m, .int .i64 x] 23))
  clear hlen hl hA hT
  by_cases ok : okRule a m x
  · rw [Gear.first_ok ok]
    have ck := chk_ok ok
    have ok' := Lib.hid ok
    clear ok
    go_enter Tryd.func11, Tryd.ntmps11
    go_wp2_with (go_at_call 23; refine (check_any a m x _).mono ?_; rw [ck]; rintro e w1 ⟨rfl, hb1⟩; have d0 := (hb1.cell (p := ⟨w.heap.size, 0, none⟩) (by simp)).trans c0; have d1 := (hb1.cell (p := ⟨w.heap.size, 1, none⟩) (by simp)).trans c1; have d2 := (hb1.cell (p := ⟨w.heap.size, 2, none⟩) (by simp)).trans c2)
    have hB1 := Lib.hid (hb0.out.trans (hb1.mono (by simp)))
    have hsz1 : w.heap.size + 1 ≤ w1.heap.size := by have := hb1.size; simpa using this
    clear hb1 c0 c1 c2
    refine (ends_any a m x w1 ok'.out (hT'.out.below hB1.out)).mono ?_
    rintro e w2 ⟨rfl, ht, hb2, hsz2⟩
    have hB2 := Lib.hid (hB1.out.trans (hb2.mono hB1.out.size))
    clear hb2 d0 d1 d2
    unfold tstV
    generalize hS : w1.heap.size = S at *
    have ht' := Lib.hid ht
    clear ht
    go_wp2_with fail
    go_loopw [16] (fun i wr => ∃ k h : Nat, k ≤ L ∧ i = .int .i64 k ∧ Hid (Tst wr S a m x k h) ∧ Hid (Below w.heap.size w wr) ∧ Hid (∀ _ : Unit, Gear.scan a m x 0 0 l = Gear.scan a m x k h (l.drop k))) (fun i _ => L - (intOf i).toNat)
    case atStart => exact ⟨0, 0, by omega, rfl, ht', hB2, Lib.hid fun _ => rfl⟩
    case round =>
      clear ht' hB1 hB2 hsz2
      obtain ⟨k, h, hk, rfl, ht, hbel, hsc⟩ := hrel
      by_cases hlt : k < L
      · obtain ⟨b0, off, rfl, _, q⟩ := (hA'.out.below hbel.out).get (k := k) (by rw [hlen'.out]; exact hlt)
        have hd := drop_get (l := l) (k := k) (by rw [hlen'.out]; exact hlt)
        have hbb : l[k]?.getD 0 < 256 := by
          have h1 : k < l.length := by rw [hlen'.out]; exact hlt
          rw [List.getElem?_eq_getElem h1]
          exact hl'.out _ (List.getElem_mem h1)
        obtain ⟨b, hb⟩ : ∃ b, l[k]?.getD 0 = b := ⟨_, rfl⟩
        rw [hb] at q hd hbb
        have hc := Lib.hid (clo_any S a m x k h b wr ok'.out ht.out hbb (by omega))
        rw [hd] at hsc
        clear hb hd
        by_cases he : Gear.ends a m x (k + 1) (Gear.roll h b) = true
        · have hs2 := Gear.scan_hit (t := l.drop (k + 1)) he
          rw [he] at hc
          have hfin : Hid (∀ _ : Unit, Gear.scan a m x 0 0 l = (k + 1, true)) := Lib.hid fun _ => (hsc.out ()).trans hs2
          have hbel' := Lib.hid fun q => hbel.out.trans (tstW_below wr S (k + 1) (Gear.roll h b) q w.heap.size (by omega))
          clear hs2 he hsc
          go_wp2_with (go_at_call 40; refine hc.out.mono ?_; rintro e w3 ⟨rfl, q3, rfl⟩)
          go_ret2
          exact ⟨ret_first (by rw [hfin.out ()]; rfl) (by rw [hfin.out ()]), hbel'.out _⟩
        · have hs2 := Gear.scan_miss (t := l.drop (k + 1)) he
          rw [Bool.not_eq_true] at he
          rw [he] at hc
          rw [hs2] at hsc
          have hbel' := Lib.hid fun q => hbel.out.trans (tstW_below wr S (k + 1) (Gear.roll h b) q w.heap.size (by omega))
          have ht' := Lib.hid fun q => ht.out.step (k + 1) (Gear.roll h b) q
          clear hs2 he
          go_wp2_with (go_at_call 40; refine hc.out.mono ?_; rintro e w3 ⟨rfl, q3, rfl⟩)
          go_roundw
          case rel => exact ⟨k + 1, _, by omega, by go_num, Lib.hid (ht'.out _), Lib.hid (hbel'.out _), hsc⟩
          case measure => simp [intOf]; omega
      · obtain rfl : k = L := by omega
        have hfin : Hid (∀ _ : Unit, Gear.scan a m x 0 0 l = (k, false)) := Lib.hid fun _ => by
          rw [hsc.out (), ← hlen'.out, List.drop_length]
          rfl
        go_wp2_with fail
        go_ret2
        exact ⟨ret_first (by rw [hfin.out ()]) (by rw [hfin.out ()]), hbel.out⟩
  · rw [Gear.first_no ok]
    have ck := chk_no ok
    clear ok
    go_enter Tryd.func11, Tryd.ntmps11
    go_wp2_with (go_at_call 23; refine (check_any a m x _).mono ?_; rw [ck]; rintro e w1 ⟨rfl, hb1⟩)
    go_ret2
    exact ⟨rfl, hb0.out.trans (hb1.mono (by simp))⟩
end Go.Proofs.YtnjbpacnmiimlaaDoor

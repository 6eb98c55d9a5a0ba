/- The document's order of keys: Less; Count. -/
import Derived.Test.YtgjokkjmljdmbaaPnO
import Derived.BigQuiet
namespace Go.Proofs.Ytgjokkjmljdmbaa
open Go.RowKit Go.Maps
set_option linter.unusedSimpArgs false
set_option linter.unusedVariables false

theorem cmp_drop {a b : List Nat} {i x y : Nat} (ha : a[i]? = some x) (hb : b[i]? = some y) (hx : x < 256) (hy : y < 256) :
    Lib.compareBytes (b8 (a.drop i)) (b8 (b.drop i)) = if x < y then -1 else if y < x then 1 else Lib.compareBytes (b8 (a.drop (i + 1))) (b8 (b.drop (i + 1))) := by
  obtain ⟨h1, e1⟩ := List.getElem?_eq_some_iff.1 ha
  obtain ⟨h2, e2⟩ := List.getElem?_eq_some_iff.1 hb
  rw [List.drop_eq_getElem_cons h1, List.drop_eq_getElem_cons h2, e1, e2]
  simp only [b8, List.map_cons, Lib.compareBytes]
  simp only [b8_lt hx hy, b8_lt hy hx]
def LessP (w : World) (a b : List Nat) (e : Ending) (w' : World) : Prop := e = .returned (.bool (decide (cmpK a b < 0))) ∧ Below w.heap.size w w'
set_option maxRecDepth 100000 in
set_option maxHeartbeats 1000000 in
theorem refLess_any (w : World) (a b : List Nat) (hka0 : IsK a) (hkb0 : IsK b) :
    Calls Try.prog 9 #[.agg (u8s a).toArray, .agg (u8s b).toArray] w (LessP w a b) := by
  obtain ⟨g, hg⟩ : ∃ g, w.heap.size = g := ⟨_, rfl⟩
  obtain ⟨ka, hka⟩ : ∃ ka, (u8s a).toArray = ka := ⟨_, rfl⟩
  obtain ⟨kb, hkb⟩ : ∃ kb, (u8s b).toArray = kb := ⟨_, rfl⟩
  obtain ⟨w1, hw1⟩ : ∃ w1, w.alloc (.cells ka 29) = w1 := ⟨_, rfl⟩
  obtain ⟨w2, hw2⟩ : ∃ w2, w1.alloc (.cells kb 29) = w2 := ⟨_, rfl⟩
  have hs1 : w1.heap.size = g + 1 := by rw [← hw1, ← hg]; simp
  have k1 : Hid (BlkY w2 g a) := Lib.hid (by
    have h1 : BlkY w1 g a := by rw [← hw1, ← hka, ← hg]; exact BlkY.new w a
    rw [← hw2]
    exact h1.alloc _)
  have k2 : Hid (BlkY w2 (g + 1) b) := Lib.hid (by rw [← hw2, ← hkb, ← hs1]; exact BlkY.new w1 b)
  have hB : Hid (Below w.heap.size w w2) := Lib.hid (by rw [← hw2, ← hw1]; exact ((Below.refl _ _).alloc (Nat.le_refl _) _).alloc (by simp) _)
  unfold LessP cmpK
  obtain ⟨T, hT⟩ : ∃ T, Hid (∀ _ : Unit, Lib.compareBytes (b8 a) (b8 b) = T) := ⟨_, Lib.hid fun _ => rfl⟩
  rw [hT.out (), hka, hkb]
  have ha' := Lib.hid hka0.2
  have hb' := Lib.hid hkb0.2
  have hal' := Lib.hid hka0.1
  have hbl' := Lib.hid hkb0.1
  clear hka0 hkb0 hka hkb
  obtain ⟨QQ, hQQ⟩ : ∃ QQ : Bool, decide (T < 0) = QQ := ⟨_, rfl⟩
  rw [hQQ]
  have hQ := Lib.hid hQQ
  clear hQQ
  go_enter Try.func9, Try.ntmps9
  go_wp2_with fail
  clear hw1 hw2
  go_loopw [5] (fun iv wr => ∃ i m : Nat, i ≤ 32 ∧ iv = .int .i64 (i : Int) ∧ Hid (∀ _ : Unit, Lib.compareBytes (b8 (a.drop i)) (b8 (b.drop i)) = T) ∧ wr = w2.drewN m) (fun iv _ => 32 - (intOf iv).toNat)
  case atStart => exact ⟨0, 0, by omega, rfl, Lib.hid fun _ => hT.out (), rfl⟩
  case round =>
    obtain ⟨i, m, hi, rfl, hTi, hwr⟩ := hrel
    have hwr' := Lib.hid hwr
    have j1 : Hid (BlkY wr g a) := Lib.hid (by rw [hwr]; exact k1.out)
    have j2 : Hid (BlkY wr (g + 1) b) := Lib.hid (by rw [hwr]; exact k2.out)
    have hBr : Hid (Below w.heap.size w wr) := Lib.hid (by rw [hwr]; exact below_drewN hB.out m)
    clear hwr
    by_cases hlt : i < 32
    · obtain ⟨x, hx⟩ : ∃ x, Hid (a[i]? = some x) := ⟨_, Lib.hid (List.getElem?_eq_getElem (by rw [hal'.out]; exact hlt))⟩
      obtain ⟨y, hy⟩ : ∃ y, Hid (b[i]? = some y) := ⟨_, Lib.hid (List.getElem?_eq_getElem (by rw [hbl'.out]; exact hlt))⟩
      have cx := j1.out.cell (k := i) (by rw [hal'.out]; exact hlt)
      rw [hx.out, Option.getD_some] at cx
      have cy := j2.out.cell (k := i) (by rw [hbl'.out]; exact hlt)
      rw [hy.out, Option.getD_some] at cy
      have hd := Lib.hid (cmp_drop hx.out hy.out (ha'.out x (List.mem_of_getElem? hx.out)) (hb'.out y (List.mem_of_getElem? hy.out)))
      by_cases hxe : x = y
      · subst hxe
        have hTn : Hid (∀ _ : Unit, Lib.compareBytes (b8 (a.drop (i + 1))) (b8 (b.drop (i + 1))) = T) := Lib.hid fun _ => by rw [← hTi.out (), hd.out, if_neg (by omega), if_neg (by omega)]
        have q1 : ((x : Int) != (x : Int)) = false := by simp
        have q2 : decide ((x : Int) = (x : Int)) = true := by simp
        go_wp2_with fail
        go_quiet (fail)
        go_wp2_with fail
        go_roundw
        case rel => exact ⟨i + 1, _, by omega, by go_num, hTn, by rw [hwr'.out, World.drewN_drewN]⟩
        case measure => simp [intOf]; omega
      · have q1 : ((x : Int) != (y : Int)) = true := by simp; omega
        have q2 : decide ((x : Int) = (y : Int)) = false := by simp; omega
        by_cases hxy : x < y
        · have hTv : Hid (QQ = true) := Lib.hid (by rw [← hQ.out, ← hTi.out (), hd.out, if_pos hxy]; rfl)
          have q3 : decide ((x : Int) < (y : Int)) = true := by simp; omega
          go_wp2_with fail
          go_quiet (fail)
          go_wp2_with fail
          go_quiet (fail)
          go_wp2_with fail
          go_ret
          exact ⟨ret_bool hTv.out.symm, below_drewN (below_drewN hBr.out _) _⟩
        · have hTv : Hid (QQ = false) := Lib.hid (by rw [← hQ.out, ← hTi.out (), hd.out, if_neg hxy, if_pos (by omega)]; rfl)
          have q3 : decide ((x : Int) < (y : Int)) = false := by simp; omega
          go_wp2_with fail
          go_quiet (fail)
          go_wp2_with fail
          go_quiet (fail)
          go_wp2_with fail
          go_ret
          exact ⟨ret_bool hTv.out.symm, below_drewN (below_drewN hBr.out _) _⟩
    · have hTv : Hid (QQ = false) := Lib.hid (by
        rw [← hQ.out, ← hTi.out (), List.drop_of_length_le (by rw [hal'.out]; omega), List.drop_of_length_le (by rw [hbl'.out]; omega)]
        rfl)
      go_wp2_with fail
      go_ret
      exact ⟨ret_bool hTv.out.symm, hBr.out⟩
/-- How many sessions pin a key. -/
def cntS (L : List (Option Ses)) (x : List Nat) : Nat := L.countP fun y => y.any fun σ => decide (x ∈ σ.ks)
theorem cntS_take {L : List (Option Ses)} {x : List Nat} {k : Nat} {y : Option Ses} (h : L[k]? = some y) : cntS (L.take (k + 1)) x = cntS (L.take k) x + if y.any (fun σ => decide (x ∈ σ.ks)) = true then 1 else 0 := by
  unfold cntS
  rw [List.take_add_one, h, List.countP_append]
  simp [List.countP_cons]
def CountP (w : World) (L : List (Option Ses)) (x : List Nat) (e : Ending) (w' : World) : Prop := e = .returned (.int .i64 (cntS L x : Nat)) ∧ Below w.heap.size w w'
set_option maxRecDepth 100000 in
set_option maxHeartbeats 1000000 in
theorem pCount_any (w : World) (p : Nat) (L : List (Option Ses)) (h : PinsAt w p L) (x : List Nat) (hx : IsK x) :
    Calls Try.prog 11 #[.pointer (some ⟨p, 0, none⟩), .agg (u8s x).toArray] w (CountP w L x) := by
  obtain ⟨g, hg⟩ : ∃ g, w.heap.size = g := ⟨_, rfl⟩
  obtain ⟨w1, hw1⟩ : ∃ w1, w.alloc (.cells (u8s x).toArray 29) = w1 := ⟨_, rfl⟩
  have hB : Hid (Below w.heap.size w w1) := Lib.hid (by rw [← hw1]; exact (Below.refl _ _).alloc (Nat.le_refl _) _)
  have h1 : Hid (PinsAt w1 p L) := Lib.hid (h.below hB.out (Nat.le_refl _))
  have hk1 : Hid (w1.heap[g]? = some (.cells (u8s x).toArray 29 (0, 0))) := Lib.hid (by rw [← hw1, ← hg]; exact heap_alloc_new w _)
  have hi32 : Hid ((Try.prog.info? 29).map (·.size) = some 32) := Lib.hid (by kernel_rfl)
  have hs32 : Hid ((u8s x).toArray.size = 32) := Lib.hid (by simp [u8s, hx.1])
  have hx' := Lib.hid hx
  have hle : ∀ k, cntS (L.take k) x ≤ k := fun k => Nat.le_trans List.countP_le_length (List.length_take_le _ _)
  have hle' := Lib.hid hle
  have hL16 : Hid (L.take 16 = L) := Lib.hid (List.take_of_length_le (by rw [h.len]; omega))
  clear h hx hle
  go_enter Try.func11, Try.ntmps11
  go_wp2_with fail
  go_loopw [5, 7] (fun n iv wr => ∃ k c : Nat, k ≤ 16 ∧ c ≤ k ∧ iv = .int .i64 (k : Int) ∧ n = .int .i64 (c : Int) ∧ Hid (c = cntS (L.take k) x) ∧ Hid (Below w1.heap.size w1 wr)) (fun _ iv _ => 16 - (intOf iv).toNat)
  case atStart => exact ⟨0, 0, by omega, by omega, rfl, rfl, Lib.hid (by simp [cntS]), Lib.hid (Below.refl _ _)⟩
  case round =>
    obtain ⟨k, c, hk, hck, rfl, rfl, hc, hb⟩ := hrel
    by_cases hlt : k < 16
    · have hH := Lib.hid (pHas_any wr p L (h1.out.below hb.out (Nat.le_refl _)) k x hx'.out)
      have hkr := Lib.hid ((hb.out.block _ (Array.getElem?_eq_some_iff.1 hk1.out).1).trans hk1.out)
      have hst := Lib.hid (cntS_take (x := x) (h1.out.get hlt))
      generalize ((atS L (k : Int)).any fun σ => decide (x ∈ σ.ks)) = B at hH hst
      cases B
      · have hcn : Hid (c = cntS (L.take (k + 1)) x) := Lib.hid (by rw [hst.out, hc.out]; simp)
        go_wp2_with (first
          | (refine wpList_load_row rfl 29 _ rfl g rfl 29 (u8s x).toArray (0, 0) _ hkr.out Try.underlying29 rfl (by rw [hs32.out]; exact hi32.out) ?_)
          | (go_at_call 10; refine hH.out.mono ?_; rintro e w6 ⟨rfl, b6⟩; have b6' := Lib.hid b6; clear b6 hH))
        go_roundw
        case rel => exact ⟨k + 1, c, by omega, by omega, by go_num, rfl, hcn, Lib.hid (hb.out.trans (b6'.out.mono hb.out.size))⟩
        case measure => simp [intOf]; omega
      · have hcn : Hid (c + 1 = cntS (L.take (k + 1)) x) := Lib.hid (by rw [hst.out, hc.out]; simp)
        go_wp2_with (first
          | (refine wpList_load_row rfl 29 _ rfl g rfl 29 (u8s x).toArray (0, 0) _ hkr.out Try.underlying29 rfl (by rw [hs32.out]; exact hi32.out) ?_)
          | (go_at_call 10; refine hH.out.mono ?_; rintro e w6 ⟨rfl, b6⟩; have b6' := Lib.hid b6; clear b6 hH))
        go_roundw
        case rel => exact ⟨k + 1, c + 1, by omega, by omega, by go_num, by go_num, hcn, Lib.hid (hb.out.trans (b6'.out.mono hb.out.size))⟩
        case measure => simp [intOf]; omega
    · obtain rfl : k = 16 := by omega
      go_wp2_with fail
      go_ret
      exact ⟨ret_int (by rw [hc.out, hL16.out]), hB.out.trans (hb.out.mono hB.out.size)⟩
end Go.Proofs.Ytgjokkjmljdmbaa

/- PinsWalk: closed: the same pins, but that a session was closed in the end. (Printed by tools/genpw.py.) -/
import Derived.Test.YtgjokkjmljdmbaaPwP
namespace Go.Proofs.Ytgjokkjmljdmbaa
open Go.RowKit Go.Maps
set_option linter.unusedSimpArgs false
set_option linter.unusedVariables false

def k11 : List Nat := (zeros 32).set 1 1
theorem isK_11 : IsK k11 := ⟨by decide, by decide⟩
theorem build11 (w : World) : (Instr.build 29 #[(1, .int .u8 1)]).run Try.prog w = .ok (.agg (u8s k11).toArray) w :=
  run_build w _ _ _ (by kernel_rfl)
/-- All that is pinned in the end. -/
def xsF (xs : List Pn) (s : Nat) : List Pn := xs ++ [((s : Int), k11)]
theorem sk_mk {s : Nat} (hs : s < 16) (x : List Nat) : sk ((s : Int), x) = s := by unfold sk; simp; omega
def ClosedP (w : World) (xs : List Pn) (s : Nat) (e : Ending) (w' : World) : Prop :=
  ∃ q L N, e = .returned (.pointer (some ⟨q, 0, none⟩)) ∧ PinsAt w' q (L.set s none) ∧ L.length = 16 ∧ All16 L (fOf (xsF xs s)) N ∧ Below w.heap.size w w'
set_option maxRecDepth 100000 in
set_option maxHeartbeats 2000000 in
theorem closed_any (w : World) (A : Option Addr) (n c : Nat) (xs : List Pn) (hn : xs.length = n) (hL : n < 140737488355000) (hA : PRow w A xs) (s : Nat) (hs : s < 16) :
    Calls Try.prog 12 #[.slice A n c, .int .i64 (s : Int)] w (ClosedP w xs s) := by
  obtain ⟨B, hBw⟩ : ∃ B, w.heap.size = B := ⟨_, rfl⟩
  have hBw' := Lib.hid hBw
  obtain ⟨q, hq⟩ : ∃ q, w.heap.size = q := ⟨_, rfl⟩
  have hN : Hid (Calls Try.prog 5 #[] w fun e w' => e = .returned (.pointer (some ⟨q, 0, none⟩)) ∧ OpenN B w' q (List.replicate 16 none) 0 ∧ Below B w w') := Lib.hid ((pNew_any w).mono fun e w' ⟨h1, h2, h3⟩ => by
    rw [← hq, ← hBw]
    exact ⟨h1, openN_new h2, h3⟩)
  have hi32 : Hid ((Try.prog.info? 29).map (·.size) = some 32) := Lib.hid (by kernel_rfl)
  have hn' := Lib.hid hn
  have hA' := Lib.hid hA
  have hs0 : (0 : Int) ≤ (s : Int) := by omega
  have hs16 := Lib.hid hs
  have hbel0 : Hid (∀ W, Below B w W → B ≤ W.heap.size) := Lib.hid fun W h => by have := h.size; omega
  clear hn hA hBw hq
  go_enter Try.func12, Try.ntmps12
  go_wp2_with (go_at_call 5; refine hN.out.mono ?_; rintro e w1 ⟨rfl, o1, b1⟩; have o1' := Lib.hid o1; have b1' := Lib.hid b1; clear o1 b1 hN)
  go_loopw [6] (fun iv wr => ∃ (m : Nat) (L : List (Option Ses)), m ≤ 16 ∧ iv = .int .i64 (m : Int) ∧ Hid (OpenN B wr q L m) ∧ Hid (Below B w wr)) (fun iv _ => 16 - (intOf iv).toNat)
  case atStart => exact ⟨0, _, by omega, rfl, o1', b1'⟩
  case round =>
    clear o1' b1'
    obtain ⟨m, L, hm, rfl, ho, hb⟩ := hrel
    by_cases hlt : m < 16
    · have hO := Lib.hid (pOpen_new wr q L ho.out.pins.pins m hlt (by unfold atS; rw [if_pos (by omega), Int.toNat_natCast, ho.out.no m (Nat.le_refl _) hlt]; rfl))
      go_wp2_with (go_at_call 6; refine hO.out.mono ?_; rintro e w6 ⟨rfl, σ, hf, hp, hu⟩; have hnx := Lib.hid (ho.out.next hlt (hbel0.out _ hb.out) hf hp hu); clear hf hp hu hO)
      go_roundw
      case rel => exact ⟨m + 1, _, by omega, by go_num, Lib.hid hnx.out.1, Lib.hid (hb.out.trans hnx.out.2)⟩
      case measure => simp [intOf]; omega
    · have hme := Lib.hid (show m = 16 by omega)
      have hp0 := Lib.hid ho.out.pins
      have ha0 : Hid (All16 L (fOf (xs.take 0)) 0) := Lib.hid (by have := ho.out; rw [hme.out] at this; exact this.all)
      have hb0 := hb
      clear ho hb
      go_wp2_with fail
      go_loopw [7] (fun iv wr => ∃ (k : Nat) (L : List (Option Ses)), k ≤ n ∧ iv = .int .i64 (k : Int) ∧ Hid (PinsB B wr q L) ∧ Hid (All16 L (fOf (xs.take k)) k) ∧ Hid (Below B w wr)) (fun iv _ => n - (intOf iv).toNat)
      case atStart => exact ⟨0, _, by omega, rfl, hp0, ha0, hb0⟩
      case round =>
        clear hp0 ha0 hb0
        obtain ⟨k, L, hk, rfl, hp, ha, hb⟩ := hrel
        by_cases hlt : k < n
        · obtain ⟨z, hz⟩ : ∃ z, xs[k]? = some z := ⟨_, List.getElem?_eq_getElem (by rw [hn'.out]; exact hlt)⟩
          obtain ⟨hzk, hzr, b, off, rfl, hbl, hrg⟩ := hA'.out k z hz
          have hrW : ∀ W, Below B w W → W.rangeAt b (off + k * 33) (encP z) := fun W hW j v hv => (hW.cell (p := ⟨b, off + k * 33 + j, none⟩) (by have := hBw'.out; show b < B; omega)).trans (hrg j v hv)
          have hc0 : Hid (∀ W, Below B w W → W.cell? ⟨b, off + k * 33, none⟩ = some (.int .i64 z.1)) := Lib.hid fun W hW => hrW W hW 0 _ rfl
          have hrk : Hid (∀ W, Below B w W → W.rangeAt b (off + k * 33 + 1) (u8s z.2)) := Lib.hid fun W hW j v hv => by
            have := hrW W hW (j + 1) v (by simpa [encP] using hv)
            rwa [show off + k * 33 + 1 + j = off + k * 33 + (j + 1) by omega]
          have hz32 : Hid ((u8s z.2).length = 32) := Lib.hid (by simp [u8s, hzk.1])
          have hand : Hid (bits .and .i64 z.1 15 = ((sk z : Nat) : Int)) := Lib.hid (by rw [and15]; unfold sk; omega)
          have hBs := Lib.hid (show B ≤ wr.drew.heap.size from hbel0.out wr hb.out)
          have hp : Hid (PinsB B wr.drew q L) := Lib.hid ⟨⟨hp.out.pins.len, hp.out.pins.cells, hp.out.pins.ses, hp.out.pins.sep⟩, hp.out.lo⟩
          obtain ⟨σ, hσ1, hσ2, hσ3, hσ4⟩ := at_all ha.out (sk_lt z)
          have hP : Hid (Calls Try.prog 7 #[.pointer (some ⟨q, 0, none⟩), .int .i64 ((sk z : Nat) : Int), .agg (u8s z.2).toArray] wr.drew fun e w' => e = .returned (.int .i64 0) ∧ PinsAt w' q (pinL L (sk z) z.2) ∧ Upd (Wr q L) wr.drew w') := Lib.hid ((pPin_any wr.drew q L hp.out.pins (sk z) z.2 hzk (fun τ hτ => by rw [hσ1] at hτ; cases hτ; omega)).mono fun e w' h => by
            obtain ⟨h1, h2, h3⟩ := h
            rw [hσ1] at h1
            exact ⟨h1, h2, h3⟩)
          have hall1 : Hid (∀ {v1 : World}, PinsAt v1 q (pinL L (sk z) z.2) → All16 (pinL L (sk z) z.2) (fOf (xs.take (k + 1))) (k + 1)) := Lib.hid fun _ => by
            rw [List.take_add_one, hz, Option.toList_some, fOf_snoc]
            exact ha.out.pin (sk_lt z) hp.out.pins.len z.2
          have hd : Hid (Below B w wr.drew) := Lib.hid (below_drewN hb.out 1)
          have hk0 : (0 : Int) ≤ (k : Int) := by omega
          have hkn : (k : Int) < (n : Int) := by omega
          clear hz hzk hzr hbl hrg hrW hσ1 hσ2 hσ3 hσ4
          go_wp2_with fail
          refine wp_region_held (S := fun W => Below B w W) (by kernel_rfl) ?_
          change wpAnyH _ _ _ _ _ _ _ _ (World.drew _)
          refine tk (i := 0) (d := 26) (v := (.pointer (some ⟨q, 0, none⟩))) rfl rfl (Or.inl ⟨by rfl, by intro W hW; clear hW; go_simp⟩) hd.out ?_
          simp only [List.setIfInBounds_toArray, List.set_cons_zero, List.set_cons_succ]
          refine tk (i := 1) (d := 27) (v := (.slice (some ⟨b, off, none⟩) n c)) rfl rfl (Or.inl ⟨by rfl, by intro W hW; clear hW; go_simp⟩) hd.out ?_
          simp only [List.setIfInBounds_toArray, List.set_cons_zero, List.set_cons_succ]
          refine tk (i := 2) (d := 28) (v := (.int .i64 (k : Int))) rfl rfl (Or.inl ⟨by rfl, by intro W hW; clear hW; go_simp⟩) hd.out ?_
          simp only [List.setIfInBounds_toArray, List.set_cons_zero, List.set_cons_succ]
          refine tk (i := 3) (d := 29) (v := (.pointer (some ⟨b, off + k * 33, none⟩))) rfl rfl (Or.inl ⟨by rfl, by intro W hW; clear hW; go_simp⟩) hd.out ?_
          simp only [List.setIfInBounds_toArray, List.set_cons_zero, List.set_cons_succ]
          refine tk (i := 4) (d := 30) (v := (.pointer (some ⟨b, off + k * 33, none⟩))) rfl rfl (Or.inl ⟨by rfl, by intro W hW; clear hW; go_simp⟩) hd.out ?_
          simp only [List.setIfInBounds_toArray, List.set_cons_zero, List.set_cons_succ]
          refine tk (i := 5) (d := 31) (v := (.int .i64 z.1)) rfl rfl (Or.inl ⟨by rfl, by intro W hW; have cc := hc0.out W hW; clear hW; go_simp⟩) hd.out ?_
          simp only [List.setIfInBounds_toArray, List.set_cons_zero, List.set_cons_succ]
          refine tk (i := 6) (d := 32) (v := (.int .i64 ((sk z : Nat) : Int))) rfl rfl (Or.inl ⟨by rfl, by intro W hW; have ha := hand.out; clear hW; go_simp⟩) hd.out ?_
          simp only [List.setIfInBounds_toArray, List.set_cons_zero, List.set_cons_succ]
          refine tk (i := 7) (d := 33) (v := (.slice (some ⟨b, off, none⟩) n c)) rfl rfl (Or.inl ⟨by rfl, by intro W hW; clear hW; go_simp⟩) hd.out ?_
          simp only [List.setIfInBounds_toArray, List.set_cons_zero, List.set_cons_succ]
          refine tk (i := 8) (d := 34) (v := (.int .i64 (k : Int))) rfl rfl (Or.inl ⟨by rfl, by intro W hW; clear hW; go_simp⟩) hd.out ?_
          simp only [List.setIfInBounds_toArray, List.set_cons_zero, List.set_cons_succ]
          refine tk (i := 9) (d := 35) (v := (.pointer (some ⟨b, off + k * 33, none⟩))) rfl rfl (Or.inl ⟨by rfl, by intro W hW; clear hW; go_simp⟩) hd.out ?_
          simp only [List.setIfInBounds_toArray, List.set_cons_zero, List.set_cons_succ]
          refine tk (i := 10) (d := 36) (v := (.pointer (some ⟨b, off + k * 33 + 1, none⟩))) rfl rfl (Or.inl ⟨by rfl, by intro W hW; clear hW; go_simp⟩) hd.out ?_
          simp only [List.setIfInBounds_toArray, List.set_cons_zero, List.set_cons_succ]
          refine tk (i := 11) (d := 37) (v := (.agg (u8s z.2).toArray)) rfl rfl (yieldsIf_load_mid (by rfl) 29 _ rfl b (off + k * 33 + 1) rfl (u8s z.2) _ hrk.out Try.underlying29 rfl (by rw [hz32.out]; exact hi32.out)) hd.out ?_
          simp only [List.setIfInBounds_toArray, List.set_cons_zero, List.set_cons_succ]
          refine wpAnyH_ready (rs := [12]) (by kernel_rfl) (by simp) ?_
          refine AllReadyH.cons rfl (fun K hK => ?_) AllReadyH.nil
          go_simp
          go_wp2_with (go_at_call 7; refine hP.out.mono ?_; rintro e v1 ⟨rfl, a1, u1⟩; have a1' := Lib.hid a1; have u1' := Lib.hid u1; clear a1 u1)
          have hnx := Lib.hid (hp.out.pin hBs.out a1'.out u1'.out)
          have hd1 : Hid (Below B w v1) := Lib.hid (hd.out.trans hnx.out.2)
          refine hK.out _ _ hd1.out (fun _ => ?_)
          clear hK K
          refine wpAnyH_done (by kernel_rfl) ?_ _
          go_wp2_with fail
          go_roundw
          case rel => exact ⟨k + 1, _, by omega, by go_num, Lib.hid hnx.out.1, Lib.hid (hall1.out a1'.out), hd1⟩
          case measure => simp [intOf]; omega
        · obtain rfl : k = n := by omega
          have hall : Hid (All16 L (fOf xs) k) := Lib.hid (by
            have := ha.out
            rwa [List.take_of_length_le (by rw [hn'.out]; exact Nat.le_refl _)] at this)
          obtain ⟨σ, hσ1, hσ2, hσ3, hσ4⟩ := at_all hall.out hs16.out
          have hP : Hid (Calls Try.prog 7 #[.pointer (some ⟨q, 0, none⟩), .int .i64 (s : Int), .agg (u8s k11).toArray] wr fun e w' => e = .returned (.int .i64 0) ∧ PinsAt w' q (pinL L s k11) ∧ Upd (Wr q L) wr w') := Lib.hid ((pPin_any wr q L hp.out.pins s k11 isK_11 (fun τ hτ => by rw [hσ1] at hτ; cases hτ; omega)).mono fun e w' h => by
            obtain ⟨h1, h2, h3⟩ := h
            rw [hσ1] at h1
            exact ⟨h1, h2, h3⟩)
          have hall2 : Hid (All16 (pinL L s k11) (fOf (xsF xs s)) (k + 1)) := Lib.hid (by
            have := hall.out.pin hs16.out hp.out.pins.len k11
            unfold xsF
            rw [fOf_snoc, sk_mk hs16.out]
            exact this)
          obtain ⟨τ, hτ1, hτ2, hτ3, hτ4⟩ := at_all hall2.out hs16.out
          have hτ1' := Lib.hid hτ1
          have hτ3' := Lib.hid hτ3
          clear hσ1 hσ2 hσ3 hσ4 hτ1 hτ2 hτ3 hτ4
          have hb11 := build11
          obtain ⟨kk, hkk⟩ : ∃ kk, (u8s k11).toArray = kk := ⟨_, rfl⟩
          rw [hkk] at hb11 hP
          have hb11 := Lib.hid hb11
          clear hkk
          go_wp2_with (first
            | (refine wpList_blN rfl 29 _ rfl #[(1, .int .u8 1)] (by rw [List.map_toArray]; rfl) _ (fun W => hb11.out W) ?_)
            | (go_at_call 7; refine hP.out.mono ?_; rintro e v1 ⟨rfl, a1, u1⟩; have a1' := Lib.hid a1; have hnx := Lib.hid (hp.out.pin (hbel0.out _ hb.out) a1 u1); clear a1 u1 hP
               have hC := Lib.hid (pClose_any v1 q (pinL L s k11) a1'.out s)))
          refine hC.out.mono ?_
          rintro e v2 hc2
          have hc2' := Lib.hid hc2
          obtain rfl : e = .returned (.int .i64 0) := by
            have := hc2.1
            rw [hτ1'.out] at this
            rw [this]
            show Ending.returned (.int .i64 (if 0 < τ.busy then 142 else 0)) = _
            rw [if_neg (by rw [hτ3'.out]; omega)]
          clear hc2 hC
          go_wp2_with fail
          go_ret
          obtain ⟨_, h2, h3⟩ := hc2'.out
          refine ⟨q, pinL L s k11, k + 1, rfl, ?_, a1'.out.len, hall2.out, ?_⟩
          · unfold closeL at h2
            rw [hτ1'.out] at h2
            simp only [hτ3'.out, Nat.lt_irrefl, if_false, Int.toNat_natCast] at h2
            exact h2
          · rw [hBw'.out]
            have hb3 := hb.out.trans hnx.out.2
            exact hb3.trans (h3.below (fun j _ hj => hnx.out.1.lo j hj) (hbel0.out _ hb3))
end Go.Proofs.Ytgjokkjmljdmbaa

/- PinsWalk: the walk. (Printed by tools/genpww.py.) -/
import Derived.Test.YtgjokkjmljdmbaaPwC
import Derived.Test.YtgjokkjmljdmbaaKyR
namespace Go.Proofs.Ytgjokkjmljdmbaa
open Go.RowKit Go.Maps
set_option linter.unusedSimpArgs false
set_option linter.unusedVariables false

def slen : Value → Nat
  | .slice _ n _ => n
  | _ => 0
theorem key_new2 (w : World) (D : List Nat) : BlkY ((w.alloc (.cells (u8s (zeros 32)).toArray 29)).setRow w.heap.size (u8s D).toArray) w.heap.size D ∧ Below w.heap.size w ((w.alloc (.cells (u8s (zeros 32)).toArray 29)).setRow w.heap.size (u8s D).toArray) := key_new w D
theorem isK_z : IsK (zeros 32) := ⟨by simp [zeros], by simp [zeros]⟩
theorem getK {F : List (List Nat)} (h : Rise32 F) (j : Nat) : IsK ((F[j]?).getD (zeros 32)) := by
  cases hf : F[j]? with
  | none => exact isK_z
  | some x => exact h.ok x (List.mem_of_getElem? hf)
theorem isSome_get {F : List (List Nat)} {M : Nat} (hM : F.length = M) (j : Nat) : (F[j]?).isSome = decide (j < M) := by
  subst hM
  by_cases h : j < F.length
  · simp [h]
  · simp [h]
theorem ownSetRow {w : World} {B g n c size : Nat} {e : TypeId} {A : Option Addr} {l : List Value} (h : Own w B e size A n c l) {cs : Array Value} (hg : g < B) : Own (w.setRow g cs) B e size A n c l := by
  refine ⟨h.1, ?_⟩
  rcases h.2 with h2 | ⟨b, cap, cur, hv, hb, hh, r⟩
  · exact .inl h2
  · exact .inr ⟨b, cap, cur, hv, hb, (setRow_other _ _ _ _ (by omega)).trans hh, r⟩
section
variable {P : Program} {ops : Array Oper} {rest : List Oper} {op : Oper} {a : Act} {w : World} {Q : Exit → Act → World → Prop}
theorem wpList_load_mid_g (hw : Region.wanted op (yielded ops a.tmps) = true) (ty : TypeId) (x : Operand) (ho : op.op = .load ty x)
    (b o : Nat) (hx : a.eval x = .pointer (some ⟨b, o, none⟩)) (cs : List Value) (d : TypeDesc) (hc : w.rangeAt b o cs)
    (hu : P.underlying ty = some d) (hd : d.isRow = true) (hi : (P.info? ty).map (·.size) = some cs.length)
    (h : wpList P ops Q rest (a.put op.dst (.agg cs.toArray)) w) : wpList P ops Q (op :: rest) a w :=
  wpList_step fun K hK => by
    rw [if_pos hw]
    exact wp_load_mid ty x ho b o hx cs d hc hu hd hi (hK _ _ h)
end
def PwP (w : World) (e : Ending) (w' : World) : Prop := e = .returned (.bool true) ∧ Below w.heap.size w w'
set_option maxRecDepth 100000 in
set_option maxHeartbeats 8000000 in
theorem pinsWalk_any (w : World) (A : Option Addr) (n c : Nat) (xs : List Pn) (hn : xs.length = n) (hL : n < 3600000000000) (hA : PRow w A xs) (s0 : Int) :
    Calls Try.prog 3 #[.slice A n c, .int .i64 s0] w (PwP w) := by
  obtain ⟨s, hs⟩ : ∃ s : Nat, s = (s0 % 16).toNat := ⟨_, rfl⟩
  have hs16 : Hid (s < 16) := Lib.hid (by omega)
  have hand0 : Hid (bits .and .i64 s0 15 = (s : Int)) := Lib.hid (by rw [and15]; omega)
  have hpost : Hid (∀ w', Below w.heap.size w w' → PwP w (.returned (.bool true)) w') := Lib.hid fun w' h => ⟨rfl, h⟩
  obtain ⟨Q, hQ⟩ : ∃ Q, PwP w = Q := ⟨_, rfl⟩
  rw [hQ] at hpost ⊢
  obtain ⟨B, hBw⟩ : ∃ B, w.heap.size = B := ⟨_, rfl⟩
  have hBw' := Lib.hid hBw
  obtain ⟨q, hq⟩ : ∃ q, w.heap.size = q := ⟨_, rfl⟩
  have hN : Hid (Calls Try.prog 5 #[] w fun e w' => e = .returned (.pointer (some ⟨q, 0, none⟩)) ∧ OpenN B w' q (List.replicate 16 none) 0 ∧ Below B w w') := Lib.hid ((pNew_any w).mono fun e w' ⟨h1, h2, h3⟩ => by
    rw [← hq, ← hBw]
    exact ⟨h1, openN_new h2, h3⟩)
  have hi32 : Hid ((Try.prog.info? 29).map (·.size) = some 32) := Lib.hid (by kernel_rfl)
  have hn' := Lib.hid hn
  have hA' := Lib.hid hA
  have hsi0 : (0 : Int) ≤ (s : Int) := by omega
  have hbel0 : Hid (∀ W, Below B w W → B ≤ W.heap.size) := Lib.hid fun W h => by have := h.size; omega
  rw [hBw] at hpost
  clear hn hA hBw hq hs hQ
  go_enter Try.func3, Try.ntmps3
  go_wp2_with (go_at_call 5; refine hN.out.mono ?_; rintro e w1 ⟨rfl, o1, b1⟩; have o1' := Lib.hid o1; have b1' := Lib.hid b1; clear o1 b1 hN)
  go_loopw [6] (fun iv wr => ∃ (m : Nat) (L : List (Option Ses)), m ≤ 16 ∧ iv = .int .i64 (m : Int) ∧ Hid (OpenN B wr q L m) ∧ Hid (Below B w wr)) (fun iv _ => 16 - (intOf iv).toNat)
  case atStart => exact ⟨0, _, by omega, rfl, o1', b1'⟩
  case round =>
    clear o1' b1'
    obtain ⟨m, L, hm, rfl, ho, hb⟩ := hrel
    by_cases hlt : m < 16
    · have hO := Lib.hid (pOpen_new wr q L ho.out.pins.pins m hlt (by unfold atS; rw [if_pos (by omega), Int.toNat_natCast, ho.out.no m (Nat.le_refl _) hlt]; rfl))
      go_wp2_with (go_at_call 6; refine hO.out.mono ?_; rintro e w6 ⟨rfl, σ, hf, hp, hu⟩; have hnx := Lib.hid (ho.out.next hlt (hbel0.out _ hb.out) hf hp hu); clear hf hp hu hO)
      go_roundw
      case rel => exact ⟨m + 1, _, by omega, by go_num, Lib.hid hnx.out.1, Lib.hid (hb.out.trans hnx.out.2)⟩
      case measure => simp [intOf]; omega
    · have hme := Lib.hid (show m = 16 by omega)
      have hp0 := Lib.hid ho.out.pins
      have ha0 : Hid (All16 L (fOf (xs.take 0)) 0) := Lib.hid (by have := ho.out; rw [hme.out] at this; exact this.all)
      have hb0 := hb
      have had0 := hand0.out
      clear ho hb
      go_wp2_with fail
      clear had0
      go_loopw [7] (fun iv wr => ∃ (k : Nat) (L : List (Option Ses)), k ≤ n ∧ iv = .int .i64 (k : Int) ∧ Hid (PinsB B wr q L) ∧ Hid (All16 L (fOf (xs.take k)) k) ∧ Hid (Below B w wr)) (fun iv _ => n - (intOf iv).toNat)
      case atStart => exact ⟨0, _, by omega, rfl, hp0, ha0, hb0⟩
      case round =>
        clear hp0 ha0 hb0
        obtain ⟨k, L, hk, rfl, hp, ha, hb⟩ := hrel
        by_cases hlt : k < n
        · skip
          obtain ⟨z, hz⟩ : ∃ z, xs[k]? = some z := ⟨_, List.getElem?_eq_getElem (by rw [hn'.out]; exact hlt)⟩
          obtain ⟨hzk, hzr, b, off, rfl, hbl, hrg⟩ := hA'.out k z hz
          have hrW : ∀ W, Below B w W → W.rangeAt b (off + k * 33) (encP z) := fun W hW j v hv => (hW.cell (p := ⟨b, off + k * 33 + j, none⟩) (by have := hBw'.out; show b < B; omega)).trans (hrg j v hv)
          have hc0 : Hid (∀ W, Below B w W → W.cell? ⟨b, off + k * 33, none⟩ = some (.int .i64 z.1)) := Lib.hid fun W hW => hrW W hW 0 _ rfl
          have hrk : Hid (∀ W, Below B w W → W.rangeAt b (off + k * 33 + 1) (u8s z.2)) := Lib.hid fun W hW j v hv => by
            have := hrW W hW (j + 1) v (by simpa [encP] using hv)
            rwa [show off + k * 33 + 1 + j = off + k * 33 + (j + 1) by omega]
          have hz32 : Hid ((u8s z.2).length = 32) := Lib.hid (by simp [u8s, hzk.1])
          have hand : Hid (bits .and .i64 z.1 15 = ((sk z : Nat) : Int)) := Lib.hid (by rw [and15]; unfold sk; omega)
          have hBs := Lib.hid (show B ≤ wr.drew.heap.size from hbel0.out wr hb.out)
          have hp : Hid (PinsB B wr.drew q L) := Lib.hid ⟨⟨hp.out.pins.len, hp.out.pins.cells, hp.out.pins.ses, hp.out.pins.sep⟩, hp.out.lo⟩
          obtain ⟨σ, hσ1, hσ2, hσ3, hσ4⟩ := at_all ha.out (sk_lt z)
          have hP : Hid (Calls Try.prog 7 #[.pointer (some ⟨q, 0, none⟩), .int .i64 ((sk z : Nat) : Int), .agg (u8s z.2).toArray] wr.drew fun e w' => e = .returned (.int .i64 0) ∧ PinsAt w' q (pinL L (sk z) z.2) ∧ Upd (Wr q L) wr.drew w') := Lib.hid ((pPin_any wr.drew q L hp.out.pins (sk z) z.2 hzk (fun τ hτ => by rw [hσ1] at hτ; cases hτ; omega)).mono fun e w' h => by
            obtain ⟨h1, h2, h3⟩ := h
            rw [hσ1] at h1
            exact ⟨h1, h2, h3⟩)
          have hall1 : Hid (∀ {v1 : World}, PinsAt v1 q (pinL L (sk z) z.2) → All16 (pinL L (sk z) z.2) (fOf (xs.take (k + 1))) (k + 1)) := Lib.hid fun _ => by
            rw [List.take_add_one, hz, Option.toList_some, fOf_snoc]
            exact ha.out.pin (sk_lt z) hp.out.pins.len z.2
          have hd : Hid (Below B w wr.drew) := Lib.hid (below_drewN hb.out 1)
          have hk0 : (0 : Int) ≤ (k : Int) := by omega
          have hkn : (k : Int) < (n : Int) := by omega
          clear hz hzk hzr hbl hrg hrW hσ1 hσ2 hσ3 hσ4
          go_wp2_with fail
          refine wp_region_held (S := fun W => Below B w W) (by kernel_rfl) ?_
          change wpAnyH _ _ _ _ _ _ _ _ (World.drew _)
          refine tk (i := 0) (d := 38) (v := (.pointer (some ⟨q, 0, none⟩))) rfl rfl (Or.inl ⟨by rfl, by intro W hW; clear hW; go_simp⟩) hd.out ?_
          simp only [List.setIfInBounds_toArray, List.set_cons_zero, List.set_cons_succ]
          refine tk (i := 1) (d := 39) (v := (.slice (some ⟨b, off, none⟩) n c)) rfl rfl (Or.inl ⟨by rfl, by intro W hW; clear hW; go_simp⟩) hd.out ?_
          simp only [List.setIfInBounds_toArray, List.set_cons_zero, List.set_cons_succ]
          refine tk (i := 2) (d := 40) (v := (.int .i64 (k : Int))) rfl rfl (Or.inl ⟨by rfl, by intro W hW; clear hW; go_simp⟩) hd.out ?_
          simp only [List.setIfInBounds_toArray, List.set_cons_zero, List.set_cons_succ]
          refine tk (i := 3) (d := 41) (v := (.pointer (some ⟨b, off + k * 33, none⟩))) rfl rfl (Or.inl ⟨by rfl, by intro W hW; clear hW; go_simp⟩) hd.out ?_
          simp only [List.setIfInBounds_toArray, List.set_cons_zero, List.set_cons_succ]
          refine tk (i := 4) (d := 42) (v := (.pointer (some ⟨b, off + k * 33, none⟩))) rfl rfl (Or.inl ⟨by rfl, by intro W hW; clear hW; go_simp⟩) hd.out ?_
          simp only [List.setIfInBounds_toArray, List.set_cons_zero, List.set_cons_succ]
          refine tk (i := 5) (d := 43) (v := (.int .i64 z.1)) rfl rfl (Or.inl ⟨by rfl, by intro W hW; have cc := hc0.out W hW; clear hW; go_simp⟩) hd.out ?_
          simp only [List.setIfInBounds_toArray, List.set_cons_zero, List.set_cons_succ]
          refine tk (i := 6) (d := 44) (v := (.int .i64 ((sk z : Nat) : Int))) rfl rfl (Or.inl ⟨by rfl, by intro W hW; have ha := hand.out; clear hW; go_simp⟩) hd.out ?_
          simp only [List.setIfInBounds_toArray, List.set_cons_zero, List.set_cons_succ]
          refine tk (i := 7) (d := 45) (v := (.slice (some ⟨b, off, none⟩) n c)) rfl rfl (Or.inl ⟨by rfl, by intro W hW; clear hW; go_simp⟩) hd.out ?_
          simp only [List.setIfInBounds_toArray, List.set_cons_zero, List.set_cons_succ]
          refine tk (i := 8) (d := 46) (v := (.int .i64 (k : Int))) rfl rfl (Or.inl ⟨by rfl, by intro W hW; clear hW; go_simp⟩) hd.out ?_
          simp only [List.setIfInBounds_toArray, List.set_cons_zero, List.set_cons_succ]
          refine tk (i := 9) (d := 47) (v := (.pointer (some ⟨b, off + k * 33, none⟩))) rfl rfl (Or.inl ⟨by rfl, by intro W hW; clear hW; go_simp⟩) hd.out ?_
          simp only [List.setIfInBounds_toArray, List.set_cons_zero, List.set_cons_succ]
          refine tk (i := 10) (d := 48) (v := (.pointer (some ⟨b, off + k * 33 + 1, none⟩))) rfl rfl (Or.inl ⟨by rfl, by intro W hW; clear hW; go_simp⟩) hd.out ?_
          simp only [List.setIfInBounds_toArray, List.set_cons_zero, List.set_cons_succ]
          refine tk (i := 11) (d := 49) (v := (.agg (u8s z.2).toArray)) rfl rfl (yieldsIf_load_mid (by rfl) 29 _ rfl b (off + k * 33 + 1) rfl (u8s z.2) _ hrk.out Try.underlying29 rfl (by rw [hz32.out]; exact hi32.out)) hd.out ?_
          simp only [List.setIfInBounds_toArray, List.set_cons_zero, List.set_cons_succ]
          refine wpAnyH_ready (rs := [12]) (by kernel_rfl) (by simp) ?_
          refine AllReadyH.cons rfl (fun K hK => ?_) AllReadyH.nil
          go_simp
          go_wp2_with (go_at_call 7; refine hP.out.mono ?_; rintro e v1 ⟨rfl, a1, u1⟩; have a1' := Lib.hid a1; have u1' := Lib.hid u1; clear a1 u1)
          have hnx := Lib.hid (hp.out.pin hBs.out a1'.out u1'.out)
          have hd1 : Hid (Below B w v1) := Lib.hid (hd.out.trans hnx.out.2)
          refine hK.out _ _ hd1.out (fun _ => ?_)
          clear hK K
          refine tk (i := 13) (d := 51) (v := (.bool false)) rfl rfl (Or.inl ⟨by rfl, by intro W hW; clear hW; go_simp⟩) hd1.out ?_
          simp only [List.setIfInBounds_toArray, List.set_cons_zero, List.set_cons_succ]
          refine wpAnyH_done (by kernel_rfl) ?_ _
          go_wp2_with fail
          go_roundw
          case rel => exact ⟨k + 1, _, by omega, by go_num, Lib.hid hnx.out.1, Lib.hid (hall1.out a1'.out), hd1⟩
          case measure => simp [intOf]; omega
        · have hkn := Lib.hid (show k = n by omega)
          have hall : Hid (All16 L (fOf xs) k) := Lib.hid (by
            have := ha.out
            rwa [List.take_of_length_le (by rw [hn'.out, hkn.out]; exact Nat.le_refl _)] at this)
          obtain ⟨σ, hσ1, hσ2, hσ3, hσ4⟩ := at_all hall.out hs16.out
          have hP : Hid (Calls Try.prog 7 #[.pointer (some ⟨q, 0, none⟩), .int .i64 (s : Int), .agg (u8s k11).toArray] wr fun e w' => e = .returned (.int .i64 0) ∧ PinsAt w' q (pinL L s k11) ∧ Upd (Wr q L) wr w') := Lib.hid ((pPin_any wr q L hp.out.pins s k11 isK_11 (fun τ hτ => by rw [hσ1] at hτ; cases hτ; omega)).mono fun e w' h => by
            obtain ⟨h1, h2, h3⟩ := h
            rw [hσ1] at h1
            exact ⟨h1, h2, h3⟩)
          obtain ⟨f, hf⟩ : ∃ f, f = fOf (xsF xs s) := ⟨_, rfl⟩
          have hall2 : Hid (All16 (pinL L s k11) f (k + 1)) := Lib.hid (by
            have := hall.out.pin hs16.out hp.out.pins.len k11
            rw [hf]
            unfold xsF
            rw [fOf_snoc, sk_mk hs16.out]
            exact this)
          have hkeys : ∀ z ∈ xsF xs s, IsK z.2 := fun z hz => by
            unfold xsF at hz
            rcases List.mem_append.1 hz with hz | hz
            · obtain ⟨i, hi, rfl⟩ := List.mem_iff_getElem.1 hz
              exact (hA'.out i _ (List.getElem?_eq_getElem hi)).1
            · simp at hz
              subst hz
              exact isK_11
          obtain ⟨F, hF⟩ : ∃ F, F = f s := ⟨_, rfl⟩
          obtain ⟨M, hM⟩ : ∃ M, F.length = M := ⟨_, rfl⟩
          have hFr : Hid (Rise32 F) := Lib.hid (by rw [hF, hf]; exact rise_fOf hkeys s)
          have hcnt : M ≤ xs.countP (fun z => decide (sk z = s)) + 1 := by
            have h1 := length_fOf (xsF xs s) s
            rw [← hM, hF, hf]
            unfold xsF at h1 ⊢
            rw [List.countP_append] at h1
            have h2 : [((s : Int), k11)].countP (fun z => decide (sk z = s)) ≤ 1 := by
              have := List.countP_le_length (p := fun z : Pn => decide (sk z = s)) (l := [((s : Int), k11)])
              simpa using this
            omega
          have hcn1 : M ≤ k + 1 := by
            have h1 := List.countP_le_length (p := fun z : Pn => decide (sk z = s)) (l := xs)
            have := hn'.out
            omega
          have hM1 : 1 ≤ M := by
            have : k11 ∈ F := by
              rw [hF, hf, mem_fOf]
              exact ⟨((s : Int), k11), by simp [xsF], sk_mk hs16.out _, rfl⟩
            rw [← hM]
            exact List.length_pos_iff.2 (List.ne_nil_of_mem this)
          have hin : Hid (∀ z ∈ xs, sk z = s → z.2 ∈ F) := Lib.hid fun z hz hsz => by
            rw [hF, hf, mem_fOf]
            exact ⟨z, by simp [xsF, hz], hsz, rfl⟩
          have hin2 : Hid (∀ z ∈ xs, z.2 ∈ f (sk z)) := Lib.hid fun z hz => by
            rw [hf, mem_fOf]
            exact ⟨z, by simp [xsF, hz], rfl, rfl⟩
          have hcnt' := Lib.hid hcnt
          have hF' := Lib.hid hF
          have hf' := Lib.hid hf
          have hM' := Lib.hid hM
          have hcs : Hid (∀ pA W, PinsAt W q (pinL L s k11) → Calls Try.prog 8 #[.pointer (some ⟨q, 0, none⟩), .int .i64 (s : Int), .agg (u8s (zeros 32)).toArray, .bool true] W fun e w' => e = .returned (.tuple #[.agg (u8s ((F[0]?).getD (zeros 32))).toArray, .bool (decide (0 < M))]) ∧ Below W.heap.size W w') := Lib.hid fun (_ : Nat) W hW => by
            obtain ⟨τ, hτ1, hτ2, _⟩ := at_all hall2.out hs16.out
            refine (pNext_any W q _ hW s (zeros 32) isK_z true).mono ?_
            rintro e w' ⟨h1, h2⟩
            rw [hτ1] at h1
            have e1 : nextS (some τ) true (zeros 32) = F[0]? := by
              unfold nextS
              rw [Option.bind_some, hτ2, ← hF]
              exact find_any F _
            rw [e1, isSome_get hM] at h1
            exact ⟨h1, h2⟩
          have hNx : Hid (∀ j x, F[j]? = some x → ∀ W, PinsAt W q (pinL L s k11) → Calls Try.prog 8 #[.pointer (some ⟨q, 0, none⟩), .int .i64 (s : Int), .agg (u8s x).toArray, .bool false] W fun e w' => e = .returned (.tuple #[.agg (u8s ((F[j + 1]?).getD (zeros 32))).toArray, .bool (decide (j + 1 < M))]) ∧ Below W.heap.size W w') := Lib.hid fun j x hx W hW => by
            obtain ⟨τ, hτ1, hτ2, _⟩ := at_all hall2.out hs16.out
            refine (pNext_any W q _ hW s x (hFr.out.ok x (List.mem_of_getElem? hx)) false).mono ?_
            rintro e w' ⟨h1, h2⟩
            rw [hτ1] at h1
            have e1 : nextS (some τ) false x = F[j + 1]? := by
              unfold nextS
              rw [Option.bind_some, hτ2, ← hF]
              exact find_after hFr.out hx
            rw [e1, isSome_get hM] at h1
            exact ⟨h1, h2⟩
          have hHs : Hid (∀ x, IsK x → ∀ W, PinsAt W q (pinL L s k11) → Calls Try.prog 10 #[.pointer (some ⟨q, 0, none⟩), .int .i64 (s : Int), .agg (u8s x).toArray] W fun e w' => e = .returned (.bool (decide (x ∈ F))) ∧ Below W.heap.size W w') := Lib.hid fun x hx W hW => by
            obtain ⟨τ, hτ1, hτ2, _⟩ := at_all hall2.out hs16.out
            refine (pHas_any W q _ hW s x hx).mono ?_
            rintro e w' ⟨h1, h2⟩
            rw [hτ1, Option.any_some, hτ2, ← hF] at h1
            exact ⟨h1, h2⟩
          have hLn := Lib.hid hp.out.pins.len
          have hCn : Hid (∀ x, IsK x → ∀ W, PinsAt W q (pinL L s k11) → Calls Try.prog 11 #[.pointer (some ⟨q, 0, none⟩), .agg (u8s x).toArray] W fun e w' => e = .returned (.int .i64 (cfS f x : Nat)) ∧ Below W.heap.size W w') := Lib.hid fun x hx W hW => by
            refine (pCount_any W q _ hW x hx).mono ?_
            rintro e w' ⟨h1, h2⟩
            rw [cnt_all hW.len hall2.out] at h1
            exact ⟨h1, h2⟩
          clear hσ1 hσ2 hσ3 hσ4 hF hf hM hkeys hcnt
          have hb11 := build11
          have hzb := zeroKN
          obtain ⟨kk, hkk⟩ : ∃ kk, (u8s k11).toArray = kk := ⟨_, rfl⟩
          rw [hkk] at hb11 hP
          have hb11 := Lib.hid hb11
          have hzb := Lib.hid hzb
          obtain ⟨x0, hx0⟩ : ∃ x0, (F[0]?).getD (zeros 32) = x0 := ⟨_, rfl⟩
          rw [hx0] at hcs
          have hx0k : IsK x0 := by rw [← hx0]; exact getK hFr.out 0
          have hx0s : Hid ((u8s x0).toArray.size = 32) := Lib.hid (by simp [u8s, hx0k.1])
          have hzs : Hid ((u8s (zeros 32)).toArray.size = 32) := Lib.hid (by simp [u8s, zeros])
          have hx0' := Lib.hid hx0
          have hzk := zeroKy
          clear hkk hx0 hx0k
          go_wp2_with (first
            | (refine wpList_blN rfl 29 _ rfl #[(1, .int .u8 1)] (by rw [List.map_toArray]; rfl) _ (fun W => hb11.out W) ?_)
            | (refine wpList_blN rfl 29 _ rfl #[] (by rfl) _ (fun W => hzb.out W) ?_)
            | (go_at_call 7; refine hP.out.mono ?_; rintro e v1 ⟨rfl, a1, u1⟩; have a1' := Lib.hid a1; have hnx := Lib.hid (hp.out.pin (hbel0.out _ hb.out) a1 u1); clear a1 u1 hP)
            | (go_at_call 8; refine (hcs.out 0 _ a1'.out).mono ?_; rintro e w4 ⟨rfl, b4⟩; have b4' := Lib.hid b4; clear b4 hcs)
            | (refine wpList_store_row rfl 29 _ _ rfl w4.heap.size (u8s x0).toArray rfl rfl 29 _ (heap_alloc_new w4 _) (by rw [hx0s.out]; exact hi32.out) (by rw [hx0s.out, hzs.out]) (all_oneCell_toArray u8s_one) ?_
               have hkn := Lib.hid (key_new2 w4 x0)
               generalize ((w4.alloc (.cells (u8s (zeros 32)).toArray 29)).setRow w4.heap.size (u8s x0).toArray) = w5 at hkn ⊢))
          obtain ⟨g9, hg9⟩ : ∃ g9, w4.heap.size = g9 := ⟨_, rfl⟩
          have hb3 : Hid (Below B w v1) := Lib.hid (hb.out.trans hnx.out.2)
          have hP4 : Hid (PinsAt w4 q (pinL L s k11)) := Lib.hid (a1'.out.below b4'.out (Nat.le_refl _))
          have hB9 : Hid (B ≤ g9) := Lib.hid (by
            have h1 := hbel0.out _ hb3.out
            have h2 := b4'.out.size
            omega)
          have hBw4 : Hid (Below B w w4) := Lib.hid (hb3.out.trans (b4'.out.mono (hbel0.out _ hb3.out)))
          rw [hg9] at hkn ⊢
          have hSt : Hid (∀ W, Below g9 w4 W → PinsAt W q (pinL L s k11)) := Lib.hid fun W hW => hP4.out.below hW (Nat.le_of_eq hg9)
          have hBW : Hid (∀ W, Below g9 w4 W → Below B w W) := Lib.hid fun W hW => hBw4.out.trans (hW.mono hB9.out)
          have hg9' := Lib.hid hg9
          have hsz9 : Hid (∀ W, Below g9 w4 W → ∀ l, BlkY W g9 l → g9 < W.heap.size) := Lib.hid fun W _ l h => h.lt
          have hkn1 := Lib.hid hkn.out.1
          have hkn2 := Lib.hid hkn.out.2
          clear hb3 hP4 hBw4 hg9 hkn a1' hnx b4' hb hp ha
          have hdec0 : Hid (decide (0 < M) = true) := Lib.hid (decide_eq_true (by omega))
          go_loopw [8, 10] (fun mv okv wr => ∃ (j : Nat) (A4 : Option Addr) (c4 : Nat), j ≤ M ∧ mv = .slice A4 j c4 ∧ okv = .bool (decide (j < M)) ∧ Hid (BlkY wr g9 ((F[j]?).getD (zeros 32))) ∧ Hid (Own wr (g9 + 1) 29 32 A4 j c4 (rowsK (F.take j))) ∧ Hid (Below g9 w4 wr)) (fun mv _ _ => M - slen mv)
          case atStart => exact ⟨0, none, 0, by omega, rfl, rfl, Lib.hid (by rw [hx0'.out]; exact hkn1.out), Lib.hid (Own.nil _ _ _ _), hkn2⟩
          case round =>
            clear hkn1 hkn2 hx0' hx0s
            obtain ⟨j, A4, c4, hj, rfl, rfl, hY, hO, hG⟩ := hrel
            by_cases hlt : j < M
            · obtain ⟨x, hx⟩ : ∃ x, F[j]? = some x := ⟨_, List.getElem?_eq_getElem (by rw [hM'.out]; exact hlt)⟩
              have hxk : IsK x := hFr.out.ok x (List.mem_of_getElem? hx)
              have hYx : Hid (BlkY wr g9 x) := Lib.hid (by have := hY.out; rw [hx] at this; exact this)
              have hx9 : Hid (∀ W, Below wr.heap.size wr W → BlkY W g9 x) := Lib.hid fun W hW => hYx.out.below hW
              have hxs32 : Hid ((u8s x).toArray.size = 32) := Lib.hid (by simp [u8s, hxk.1])
              have hGW : Hid (∀ W, Below wr.heap.size wr W → Below g9 w4 W) := Lib.hid fun W hW => hG.out.trans (hW.mono (by rw [← hg9'.out]; exact hG.out.size))
              have hHas : Hid (∀ W, Below wr.heap.size wr W → Calls Try.prog 10 #[.pointer (some ⟨q, 0, none⟩), .int .i64 (s : Int), .agg (u8s x).toArray] W fun e w' => e = .returned (.bool true) ∧ Below W.heap.size W w') := Lib.hid fun W hW => by
                have := hHs.out x hxk W (hSt.out W (hGW.out W hW))
                rw [decide_eq_true (List.mem_of_getElem? hx)] at this
                exact this
              have hdj : decide (j < M) = true := decide_eq_true hlt
              have hjn : (j : Int) ≤ (k : Int) + 1 := by omega
              have hd : Hid (Below wr.heap.size wr wr.drew) := Lib.hid (below_drewN (Below.refl _ _) 1)
              have hbK : Hid _ := Lib.hid (builtK x hxk.1)
              have hxg := Lib.hid hx
              have hxk' := Lib.hid hxk
              have hNj := Lib.hid (fun W (hW : Below g9 w4 W) => hNx.out j x hx W (hSt.out W hW))
              obtain ⟨y, hy⟩ : ∃ y, (F[j + 1]?).getD (zeros 32) = y := ⟨_, rfl⟩
              rw [hy] at hNj
              have hyk : IsK y := by rw [← hy]; exact getK hFr.out (j + 1)
              have hys : Hid ((u8s y).toArray.size = 32) := Lib.hid (by simp [u8s, hyk.1])
              have hy' := Lib.hid hy
              have hsnoc : Hid (rowsK (F.take j) ++ (u8s x).toArray.toList = rowsK (F.take (j + 1))) := Lib.hid (by
                rw [List.take_add_one, hx, Option.toList_some, rowsK_append, rowsK_one])
              have hone : Hid (∀ u ∈ (u8s x).toArray.toList, u.oneCell' = true) := Lib.hid (fun u hu => u8s_one u (by simpa using hu))
              have hj0 : (0 : Int) ≤ (j : Int) := by omega
              by_cases hjz : j = 0
              · skip
                have hj0 : Hid (j = 0) := Lib.hid hjz
                clear hx hxk hy hyk hY hjz
                go_wp2_with fail
                refine wp_region_held (S := fun W => Below wr.heap.size wr W) (by kernel_rfl) ?_
                change wpAnyH _ _ _ _ _ _ _ _ (World.drew _)
                refine tk (i := 0) (d := 72) (v := (.slice A4 j c4)) rfl rfl (Or.inl ⟨by rfl, by intro W hW; clear hW; go_simp⟩) hd.out ?_
                simp only [List.setIfInBounds_toArray, List.set_cons_zero, List.set_cons_succ]
                refine tk (i := 1) (d := 73) (v := (.int .i64 (j : Int))) rfl rfl (Or.inl ⟨by rfl, by intro W hW; clear hW; go_simp⟩) hd.out ?_
                simp only [List.setIfInBounds_toArray, List.set_cons_zero, List.set_cons_succ]
                refine tk (i := 2) (d := 74) (v := (.bool false)) rfl rfl (Or.inl ⟨by rfl, by intro W hW; have hh := hj0.out; clear hW; go_simp⟩) hd.out ?_
                simp only [List.setIfInBounds_toArray, List.set_cons_zero, List.set_cons_succ]
                refine tk (i := 3) (d := 75) (v := (.bool false)) rfl rfl (Or.inl ⟨by rfl, by intro W hW; clear hW; go_simp⟩) hd.out ?_
                simp only [List.setIfInBounds_toArray, List.set_cons_zero, List.set_cons_succ]
                refine tk (i := 4) (d := 76) (v := undef) rfl rfl (Or.inr ⟨by rfl, by rfl⟩) hd.out ?_
                simp only [List.setIfInBounds_toArray, List.set_cons_zero, List.set_cons_succ]
                refine tk (i := 5) (d := 77) (v := undef) rfl rfl (Or.inr ⟨by rfl, by rfl⟩) hd.out ?_
                simp only [List.setIfInBounds_toArray, List.set_cons_zero, List.set_cons_succ]
                refine tk (i := 6) (d := 78) (v := undef) rfl rfl (Or.inr ⟨by rfl, by rfl⟩) hd.out ?_
                simp only [List.setIfInBounds_toArray, List.set_cons_zero, List.set_cons_succ]
                refine tk (i := 7) (d := 79) (v := undef) rfl rfl (Or.inr ⟨by rfl, by rfl⟩) hd.out ?_
                simp only [List.setIfInBounds_toArray, List.set_cons_zero, List.set_cons_succ]
                refine tk (i := 8) (d := 80) (v := undef) rfl rfl (Or.inr ⟨by rfl, by rfl⟩) hd.out ?_
                simp only [List.setIfInBounds_toArray, List.set_cons_zero, List.set_cons_succ]
                refine tk (i := 9) (d := 81) (v := undef) rfl rfl (Or.inr ⟨by rfl, by rfl⟩) hd.out ?_
                simp only [List.setIfInBounds_toArray, List.set_cons_zero, List.set_cons_succ]
                refine tk (i := 10) (d := 82) (v := undef) rfl rfl (Or.inr ⟨by rfl, by rfl⟩) hd.out ?_
                simp only [List.setIfInBounds_toArray, List.set_cons_zero, List.set_cons_succ]
                refine wpAnyH_ready (rs := [11]) (by kernel_rfl) (by simp) ?_
                refine AllReadyH.cons rfl (fun K hK => ?_) AllReadyH.nil
                go_simp
                refine hK.out _ _ hd.out (fun _ => ?_)
                clear hK K
                refine tk (i := 12) (d := 84) (v := undef) rfl rfl (Or.inr ⟨by rfl, by rfl⟩) hd.out ?_
                simp only [List.setIfInBounds_toArray, List.set_cons_zero, List.set_cons_succ]
                refine tk (i := 13) (d := 85) (v := (.bool false)) rfl rfl (Or.inl ⟨by rfl, by intro W hW; clear hW; go_simp⟩) hd.out ?_
                simp only [List.setIfInBounds_toArray, List.set_cons_zero, List.set_cons_succ]
                refine tk (i := 14) (d := 86) (v := (.bool false)) rfl rfl (Or.inl ⟨by rfl, by intro W hW; clear hW; go_simp⟩) hd.out ?_
                simp only [List.setIfInBounds_toArray, List.set_cons_zero, List.set_cons_succ]
                refine tk (i := 15) (d := 87) (v := (.pointer (some ⟨q, 0, none⟩))) rfl rfl (Or.inl ⟨by rfl, by intro W hW; clear hW; go_simp⟩) hd.out ?_
                simp only [List.setIfInBounds_toArray, List.set_cons_zero, List.set_cons_succ]
                refine tk (i := 16) (d := 88) (v := (.int .i64 (s : Int))) rfl rfl (Or.inl ⟨by rfl, by intro W hW; clear hW; go_simp⟩) hd.out ?_
                simp only [List.setIfInBounds_toArray, List.set_cons_zero, List.set_cons_succ]
                refine tk (i := 17) (d := 89) (v := (.agg (u8s x).toArray)) rfl rfl (yieldsIf_load_row (by rfl) 29 _ rfl g9 rfl 29 (u8s x).toArray (0, 0) _ hx9.out Try.underlying29 rfl (by rw [hxs32.out]; exact hi32.out)) hd.out ?_
                simp only [List.setIfInBounds_toArray, List.set_cons_zero, List.set_cons_succ]
                refine wpAnyH_ready (rs := [18]) (by kernel_rfl) (by simp) ?_
                refine AllReadyH.cons rfl (fun K hK => ?_) AllReadyH.nil
                go_simp
                go_wp2_with (go_at_call 10; refine (hHas.out _ hd.out).mono ?_; rintro e v2 ⟨rfl, b2⟩; have b2' := Lib.hid b2; clear b2)
                have hd2 : Hid (Below wr.heap.size wr v2) := Lib.hid (hd.out.trans (b2'.out.mono hd.out.size))
                refine hK.out _ _ hd2.out (fun _ => ?_)
                clear hK K
                refine tk (i := 19) (d := 91) (v := (.bool false)) rfl rfl (Or.inl ⟨by rfl, by intro W hW; clear hW; go_simp⟩) hd2.out ?_
                simp only [List.setIfInBounds_toArray, List.set_cons_zero, List.set_cons_succ]
                refine tk (i := 20) (d := 92) (v := (.bool false)) rfl rfl (Or.inl ⟨by rfl, by intro W hW; clear hW; go_simp⟩) hd2.out ?_
                simp only [List.setIfInBounds_toArray, List.set_cons_zero, List.set_cons_succ]
                refine wpAnyH_done (by kernel_rfl) ?_ _
                have hdz := hd2
                have hxA := Lib.hid (hx9.out _ hdz.out)
                have hGz := Lib.hid (hGW.out _ hdz.out)
                have hoz := Lib.hid (hO.out.below hdz.out (fun k hk => (hO.out.lt k hk).2))
                generalize v2 = vz at hdz hxA hGz hoz ⊢
                have hz9 := Lib.hid (hsz9.out _ hGz.out _ hxA.out)
                have hjM : j + 1 ≤ 140737488355328 := by omega
                have hbb : (j + 1 + (j + 1) / 4 + 192) * 32 ≤ 281474976710656 := by omega
                go_wp2_with (first
                  | (refine wpList_load_row rfl 29 _ rfl g9 rfl 29 (u8s x).toArray (0, 0) _ hxA.out Try.underlying29 rfl (by rw [hxs32.out]; exact hi32.out) ?_; have hxB := hxA; clear hxA)
                  | (refine wpList_load_row rfl 29 _ rfl g9 rfl 29 (u8s x).toArray (0, 0) _ hxC.out Try.underlying29 rfl (by rw [hxs32.out]; exact hi32.out) ?_)
                  | (refine Great.wpList_buildSliceTo rfl 32 29 1 _ rfl _ rfl _ rfl Try.underlying32 (u8s x).toArray (by rw [List.map_toArray]; exact hbK.out) ?_)
                  | (at_builtin; refine wpList_app1 elK vz (u8s x).toArray hxs32.out rfl _ _ rfl rfl hoz.out rfl hone.out (by unfold maxLen; omega) hbb hz9.out (j + 1) rfl _ hsnoc.out ?_
                     intro A5 c5 w6 o6 at6 b6
                     have o6' := Lib.hid o6
                     have hxC : Hid (BlkY w6 g9 x) := Lib.hid ((b6.block g9 (Nat.lt_succ_self _)).trans hxB.out)
                     have hG6 : Hid (Below g9 w4 w6) := Lib.hid (hGz.out.trans (b6.mono (Nat.le_succ _)))
                     clear o6 at6 b6 hxB)
                  | (go_at_call 8; refine (hNj.out _ hG6.out).mono ?_; rintro e w7 ⟨rfl, b7⟩
                     have hY7 := Lib.hid (hxC.out.below b7)
                     have hG7 : Hid (Below g9 w4 w7) := Lib.hid (hG6.out.trans (b7.mono (by rw [← hg9'.out]; exact hG6.out.size)))
                     have ho7 := Lib.hid (o6'.out.below b7 (fun k hk => (o6'.out.lt k hk).2))
                     clear b7 hNj)
                  | (refine wpList_store_row rfl 29 _ _ rfl g9 (u8s y).toArray rfl rfl 29 _ hY7.out (by rw [hys.out]; exact hi32.out) (by rw [hxs32.out, hys.out]) (all_oneCell_toArray u8s_one) ?_))
                go_roundw
                case rel => exact ⟨j + 1, A5, c5, by omega, rfl, rfl, Lib.hid (by rw [hy'.out]; exact setRow_heap w7 g9 _ (u8s y).toArray 29 _ hY7.out), Lib.hid (ownSetRow ho7.out (Nat.lt_succ_self _)), Lib.hid (setRow_below hG7.out (Nat.le_refl _) _)⟩
                case measure => simp [slen]; omega
              · skip
                have hj1 : 1 ≤ j := by omega
                obtain ⟨pr, hprr⟩ : ∃ pr, F[j - 1]? = some pr := ⟨_, List.getElem?_eq_getElem (by rw [hM'.out]; omega)⟩
                have hprk := hFr.out.ok pr (List.mem_of_getElem? hprr)
                have hFl : ∀ y ∈ F.take j, y.length = 32 := fun y hy => (hFr.out.ok y (List.mem_of_mem_take hy)).1
                obtain ⟨b4, o4, rfl, hb4l, hb4⟩ := ownK_at hO.out hFl (j := j - 1) (x := pr) (by rw [List.getElem?_take, if_pos (by omega)]; exact hprr)
                have hpr : Hid (∀ W, Below wr.heap.size wr W → W.rangeAt b4 (o4 + (j - 1) * 32) (u8s pr)) := Lib.hid fun W hW i v hv => (hW.cell (p := ⟨b4, o4 + (j - 1) * 32 + i, none⟩) hb4l).trans (hb4 i v hv)
                have hpr32 : Hid ((u8s pr).length = 32) := Lib.hid (by simp [u8s, hprk.1])
                have hlt2 : cmpK pr x < 0 := by
                  have h1 := (List.getElem?_eq_some_iff.1 hprr)
                  have h2 := (List.getElem?_eq_some_iff.1 hx)
                  obtain ⟨l1, e1⟩ := h1
                  obtain ⟨l2, e2⟩ := h2
                  have := List.pairwise_iff_getElem.1 hFr.out.up (j - 1) j l1 l2 (by omega)
                  rw [e1, e2] at this
                  exact this
                have hLess : Hid (∀ W, Calls Try.prog 9 #[.agg (u8s pr).toArray, .agg (u8s x).toArray] W fun e w' => e = .returned (.bool true) ∧ Below W.heap.size W w') := Lib.hid fun W => by
                  have := refLess_any W pr x hprk hxk
                  unfold LessP at this
                  rw [decide_eq_true hlt2] at this
                  exact this
                have hj0 : Hid (decide (0 < j) = true) := Lib.hid (decide_eq_true hj1)
                have hja : Hid (((j : Int) - 1).toNat = j - 1) := Lib.hid (by omega)
                have hjb : Hid ((0 : Int) ≤ (j : Int) - 1) := Lib.hid (by omega)
                have hjd : Hid (¬ ((j : Int) < 1)) := Lib.hid (by omega)
                have hjw : Hid (IntKind.i64.wrap ((j : Int) - 1) = (j : Int) - 1) := Lib.hid (by rw [IntKind.wrap_i64]; omega)
                have hjc : Hid ((j : Int) - 1 < (j : Int)) := Lib.hid (by omega)
                clear hx hxk hy hyk hY hjz hprr hprk hFl hb4l hb4 hlt2
                go_wp2_with fail
                refine wp_region_held (S := fun W => Below wr.heap.size wr W) (by kernel_rfl) ?_
                change wpAnyH _ _ _ _ _ _ _ _ (World.drew _)
                refine tk (i := 0) (d := 72) (v := (.slice (some ⟨b4, o4, none⟩) j c4)) rfl rfl (Or.inl ⟨by rfl, by intro W hW; clear hW; go_simp⟩) hd.out ?_
                simp only [List.setIfInBounds_toArray, List.set_cons_zero, List.set_cons_succ]
                refine tk (i := 1) (d := 73) (v := (.int .i64 (j : Int))) rfl rfl (Or.inl ⟨by rfl, by intro W hW; clear hW; go_simp⟩) hd.out ?_
                simp only [List.setIfInBounds_toArray, List.set_cons_zero, List.set_cons_succ]
                refine tk (i := 2) (d := 74) (v := (.bool true)) rfl rfl (Or.inl ⟨by rfl, by intro W hW; have hh := hj0.out; clear hW; go_simp⟩) hd.out ?_
                simp only [List.setIfInBounds_toArray, List.set_cons_zero, List.set_cons_succ]
                refine tk (i := 3) (d := 75) (v := (.bool true)) rfl rfl (Or.inl ⟨by rfl, by intro W hW; clear hW; go_simp⟩) hd.out ?_
                simp only [List.setIfInBounds_toArray, List.set_cons_zero, List.set_cons_succ]
                refine tk (i := 4) (d := 76) (v := (.slice (some ⟨b4, o4, none⟩) j c4)) rfl rfl (Or.inl ⟨by rfl, by intro W hW; clear hW; go_simp⟩) hd.out ?_
                simp only [List.setIfInBounds_toArray, List.set_cons_zero, List.set_cons_succ]
                refine tk (i := 5) (d := 77) (v := (.slice (some ⟨b4, o4, none⟩) j c4)) rfl rfl (Or.inl ⟨by rfl, by intro W hW; clear hW; go_simp⟩) hd.out ?_
                simp only [List.setIfInBounds_toArray, List.set_cons_zero, List.set_cons_succ]
                refine tk (i := 6) (d := 78) (v := (.int .i64 (j : Int))) rfl rfl (Or.inl ⟨by rfl, by intro W hW; clear hW; go_simp⟩) hd.out ?_
                simp only [List.setIfInBounds_toArray, List.set_cons_zero, List.set_cons_succ]
                refine tk (i := 7) (d := 79) (v := (.int .i64 ((j : Int) - 1))) rfl rfl (Or.inl ⟨by rfl, by intro W hW; have hw := hjw.out; clear hW; go_simp⟩) hd.out ?_
                simp only [List.setIfInBounds_toArray, List.set_cons_zero, List.set_cons_succ]
                refine tk (i := 8) (d := 80) (v := (.pointer (some ⟨b4, o4 + (j - 1) * 32, none⟩))) rfl rfl (Or.inl ⟨by rfl, by intro W hW; have h1 := hja.out; have h2 := hjb.out; have h3 := hjc.out; have h4 := hjd.out; clear hW; go_simp⟩) hd.out ?_
                simp only [List.setIfInBounds_toArray, List.set_cons_zero, List.set_cons_succ]
                refine tk (i := 9) (d := 81) (v := (.agg (u8s pr).toArray)) rfl rfl (yieldsIf_load_mid (by rfl) 29 _ rfl b4 (o4 + (j - 1) * 32) rfl (u8s pr) _ hpr.out Try.underlying29 rfl (by rw [hpr32.out]; exact hi32.out)) hd.out ?_
                simp only [List.setIfInBounds_toArray, List.set_cons_zero, List.set_cons_succ]
                refine tk (i := 10) (d := 82) (v := (.agg (u8s x).toArray)) rfl rfl (yieldsIf_load_row (by rfl) 29 _ rfl g9 rfl 29 (u8s x).toArray (0, 0) _ hx9.out Try.underlying29 rfl (by rw [hxs32.out]; exact hi32.out)) hd.out ?_
                simp only [List.setIfInBounds_toArray, List.set_cons_zero, List.set_cons_succ]
                refine wpAnyH_ready (rs := [11]) (by kernel_rfl) (by simp) ?_
                refine AllReadyH.cons rfl (fun K hK => ?_) AllReadyH.nil
                go_simp
                go_wp2_with (go_at_call 9; refine (hLess.out _).mono ?_; rintro e v1 ⟨rfl, b1⟩; have b1' := Lib.hid b1; clear b1)
                have hd1 : Hid (Below wr.heap.size wr v1) := Lib.hid (hd.out.trans (b1'.out.mono hd.out.size))
                refine hK.out _ _ hd1.out (fun _ => ?_)
                clear hK K
                refine tk (i := 12) (d := 84) (v := (.bool false)) rfl rfl (Or.inl ⟨by rfl, by intro W hW; clear hW; go_simp⟩) hd1.out ?_
                simp only [List.setIfInBounds_toArray, List.set_cons_zero, List.set_cons_succ]
                refine tk (i := 13) (d := 85) (v := (.bool false)) rfl rfl (Or.inl ⟨by rfl, by intro W hW; clear hW; go_simp⟩) hd1.out ?_
                simp only [List.setIfInBounds_toArray, List.set_cons_zero, List.set_cons_succ]
                refine tk (i := 14) (d := 86) (v := (.bool false)) rfl rfl (Or.inl ⟨by rfl, by intro W hW; clear hW; go_simp⟩) hd1.out ?_
                simp only [List.setIfInBounds_toArray, List.set_cons_zero, List.set_cons_succ]
                refine tk (i := 15) (d := 87) (v := (.pointer (some ⟨q, 0, none⟩))) rfl rfl (Or.inl ⟨by rfl, by intro W hW; clear hW; go_simp⟩) hd1.out ?_
                simp only [List.setIfInBounds_toArray, List.set_cons_zero, List.set_cons_succ]
                refine tk (i := 16) (d := 88) (v := (.int .i64 (s : Int))) rfl rfl (Or.inl ⟨by rfl, by intro W hW; clear hW; go_simp⟩) hd1.out ?_
                simp only [List.setIfInBounds_toArray, List.set_cons_zero, List.set_cons_succ]
                refine tk (i := 17) (d := 89) (v := (.agg (u8s x).toArray)) rfl rfl (yieldsIf_load_row (by rfl) 29 _ rfl g9 rfl 29 (u8s x).toArray (0, 0) _ hx9.out Try.underlying29 rfl (by rw [hxs32.out]; exact hi32.out)) hd1.out ?_
                simp only [List.setIfInBounds_toArray, List.set_cons_zero, List.set_cons_succ]
                refine wpAnyH_ready (rs := [18]) (by kernel_rfl) (by simp) ?_
                refine AllReadyH.cons rfl (fun K hK => ?_) AllReadyH.nil
                go_simp
                go_wp2_with (go_at_call 10; refine (hHas.out _ hd1.out).mono ?_; rintro e v2 ⟨rfl, b2⟩; have b2' := Lib.hid b2; clear b2)
                have hd2 : Hid (Below wr.heap.size wr v2) := Lib.hid (hd1.out.trans (b2'.out.mono hd1.out.size))
                refine hK.out _ _ hd2.out (fun _ => ?_)
                clear hK K
                refine tk (i := 19) (d := 91) (v := (.bool false)) rfl rfl (Or.inl ⟨by rfl, by intro W hW; clear hW; go_simp⟩) hd2.out ?_
                simp only [List.setIfInBounds_toArray, List.set_cons_zero, List.set_cons_succ]
                refine tk (i := 20) (d := 92) (v := (.bool false)) rfl rfl (Or.inl ⟨by rfl, by intro W hW; clear hW; go_simp⟩) hd2.out ?_
                simp only [List.setIfInBounds_toArray, List.set_cons_zero, List.set_cons_succ]
                refine wpAnyH_done (by kernel_rfl) ?_ _
                have hdz := hd2
                have hxA := Lib.hid (hx9.out _ hdz.out)
                have hGz := Lib.hid (hGW.out _ hdz.out)
                have hoz := Lib.hid (hO.out.below hdz.out (fun k hk => (hO.out.lt k hk).2))
                generalize v2 = vz at hdz hxA hGz hoz ⊢
                have hz9 := Lib.hid (hsz9.out _ hGz.out _ hxA.out)
                have hjM : j + 1 ≤ 140737488355328 := by omega
                have hbb : (j + 1 + (j + 1) / 4 + 192) * 32 ≤ 281474976710656 := by omega
                go_wp2_with (first
                  | (refine wpList_load_row rfl 29 _ rfl g9 rfl 29 (u8s x).toArray (0, 0) _ hxA.out Try.underlying29 rfl (by rw [hxs32.out]; exact hi32.out) ?_; have hxB := hxA; clear hxA)
                  | (refine wpList_load_row rfl 29 _ rfl g9 rfl 29 (u8s x).toArray (0, 0) _ hxC.out Try.underlying29 rfl (by rw [hxs32.out]; exact hi32.out) ?_)
                  | (refine Great.wpList_buildSliceTo rfl 32 29 1 _ rfl _ rfl _ rfl Try.underlying32 (u8s x).toArray (by rw [List.map_toArray]; exact hbK.out) ?_)
                  | (at_builtin; refine wpList_app1 elK vz (u8s x).toArray hxs32.out rfl _ _ rfl rfl hoz.out rfl hone.out (by unfold maxLen; omega) hbb hz9.out (j + 1) rfl _ hsnoc.out ?_
                     intro A5 c5 w6 o6 at6 b6
                     have o6' := Lib.hid o6
                     have hxC : Hid (BlkY w6 g9 x) := Lib.hid ((b6.block g9 (Nat.lt_succ_self _)).trans hxB.out)
                     have hG6 : Hid (Below g9 w4 w6) := Lib.hid (hGz.out.trans (b6.mono (Nat.le_succ _)))
                     clear o6 at6 b6 hxB)
                  | (go_at_call 8; refine (hNj.out _ hG6.out).mono ?_; rintro e w7 ⟨rfl, b7⟩
                     have hY7 := Lib.hid (hxC.out.below b7)
                     have hG7 : Hid (Below g9 w4 w7) := Lib.hid (hG6.out.trans (b7.mono (by rw [← hg9'.out]; exact hG6.out.size)))
                     have ho7 := Lib.hid (o6'.out.below b7 (fun k hk => (o6'.out.lt k hk).2))
                     clear b7 hNj)
                  | (refine wpList_store_row rfl 29 _ _ rfl g9 (u8s y).toArray rfl rfl 29 _ hY7.out (by rw [hys.out]; exact hi32.out) (by rw [hxs32.out, hys.out]) (all_oneCell_toArray u8s_one) ?_))
                go_roundw
                case rel => exact ⟨j + 1, A5, c5, by omega, rfl, rfl, Lib.hid (by rw [hy'.out]; exact setRow_heap w7 g9 _ (u8s y).toArray 29 _ hY7.out), Lib.hid (ownSetRow ho7.out (Nat.lt_succ_self _)), Lib.hid (setRow_below hG7.out (Nat.le_refl _) _)⟩
                case measure => simp [slen]; omega
            · obtain rfl : j = M := by omega
              clear hY hNx
              have hO : Hid (Own wr (g9 + 1) 29 32 A4 j c4 (rowsK F)) := Lib.hid (by have := hO.out; rwa [List.take_of_length_le (by rw [hM'.out]; exact Nat.le_refl _)] at this)
              have hdj : decide (j < j) = false := by simp
              go_wp2_with fail
              clear hlt hdj
              have hxm : Hid (∀ (i : Nat) z, xs[i]? = some z → z ∈ xs) := Lib.hid fun i z h => List.mem_of_getElem? h
              go_loopw [11, 12] (fun nv iv wr => ∃ (k m : Nat), k ≤ n ∧ m ≤ k ∧ iv = .int .i64 (k : Int) ∧ nv = .int .i64 (m : Int) ∧ Hid (m = (xs.take k).countP (fun z => decide (sk z = s))) ∧ Hid (Own wr (g9 + 1) 29 32 A4 j c4 (rowsK F)) ∧ Hid (Below g9 w4 wr)) (fun _ iv _ => n - (intOf iv).toNat)
              case atStart => exact ⟨0, 0, by omega, by omega, rfl, rfl, Lib.hid rfl, hO, hG⟩
              case round =>
                clear hO hG
                obtain ⟨i, m1, hk1, hm1, rfl, rfl, hmc, hO, hG⟩ := hrel
                by_cases hlt : i < n
                · obtain ⟨z, hz⟩ : ∃ z, xs[i]? = some z := ⟨_, List.getElem?_eq_getElem (by rw [hn'.out]; exact hlt)⟩
                  obtain ⟨hzk, hzr, b, off, rfl, hbl, hrg⟩ := hA'.out i z hz
                  have hrW : Hid (∀ W, Below B w W → W.rangeAt b (off + i * 33) (encP z)) := Lib.hid fun W hW j v hv => (hW.cell (p := ⟨b, off + i * 33 + j, none⟩) (by have := hBw'.out; show b < B; omega)).trans (hrg j v hv)
                  have cc : wr.cell? ⟨b, off + i * 33, none⟩ = some (.int .i64 z.1) := hrW.out wr (hBW.out _ hG.out) 0 _ rfl
                  have hz32 : Hid ((u8s z.2).length = 32) := Lib.hid (by simp [u8s, hzk.1])
                  have hzm := Lib.hid (hxm.out i z hz)
                  have hi0 : (0 : Int) ≤ (i : Int) := by omega
                  have hin0 : (i : Int) < (n : Int) := by omega
                  have hct : Hid ((xs.take (i + 1)).countP (fun z => decide (sk z = s)) = (xs.take i).countP (fun z => decide (sk z = s)) + if sk z = s then 1 else 0) := Lib.hid (by
                    rw [List.take_add_one, hz, Option.toList_some, List.countP_append]
                    simp [List.countP_cons])
                  by_cases hsz : sk z = s
                  · have hand : bits .and .i64 z.1 15 = (s : Int) := by rw [and15, ← hsz]; unfold sk; omega
                    have hmem := Lib.hid (hin.out z hzm.out hsz)
                    have hmc1 : Hid (m1 + 1 = (xs.take (i + 1)).countP (fun z => decide (sk z = s))) := Lib.hid (by rw [hct.out, if_pos hsz, hmc.out])
                    have hzk' := Lib.hid hzk
                    clear hz hzk hzr hbl hrg hsz hct
                    go_wp2_with fail
                    clear hand cc
                    obtain ⟨wo, rfl⟩ : ∃ wo : World, wo = wr := ⟨_, rfl⟩
                    go_loopw [13, 14] (fun fv jv wr => ∃ (jj : Nat) (E : Bool), jj ≤ j ∧ jv = .int .i64 (jj : Int) ∧ fv = .bool E ∧ Hid (E = decide (z.2 ∈ F.take jj)) ∧ Hid (Own wr (g9 + 1) 29 32 A4 j c4 (rowsK F)) ∧ Hid (Below g9 w4 wr)) (fun _ jv _ => j - (intOf jv).toNat)
                    case atStart => exact ⟨0, false, by omega, rfl, rfl, Lib.hid (by simp), hO, hG⟩
                    case round =>
                      clear hO hG
                      obtain ⟨jj, E, hjj, rfl, rfl, hE, hO, hG⟩ := hrel
                      by_cases hlj : jj < j
                      · obtain ⟨y, hyy⟩ : ∃ y, F[jj]? = some y := ⟨_, List.getElem?_eq_getElem (by rw [hM'.out]; exact hlj)⟩
                        have hFl : ∀ y ∈ F, y.length = 32 := fun y hy => (hFr.out.ok y hy).1
                        have hyk := hFr.out.ok y (List.mem_of_getElem? hyy)
                        obtain ⟨b4, o4, rfl, hb4l, hb4⟩ := ownK_at hO.out hFl hyy
                        have hy : Hid (∀ W, Below wr.heap.size wr W → W.rangeAt b4 (o4 + jj * 32) (u8s y)) := Lib.hid fun W hW i v hv => (hW.cell (p := ⟨b4, o4 + jj * 32 + i, none⟩) hb4l).trans (hb4 i v hv)
                        have hGW : Hid (∀ W, Below wr.heap.size wr W → Below g9 w4 W) := Lib.hid fun W hW => hG.out.trans (hW.mono (by rw [← hg9'.out]; exact hG.out.size))
                        have hrk4 : Hid (∀ W, Below wr.heap.size wr W → W.rangeAt b (off + i * 33 + 1) (u8s z.2)) := Lib.hid fun W hW j v hv => by
                          have := hrW.out W (hBW.out _ (hGW.out W hW)) (j + 1) v (by simpa [encP] using hv)
                          rwa [show off + i * 33 + 1 + j = off + i * 33 + (j + 1) by omega]
                        have hy32 : Hid ((u8s y).length = 32) := Lib.hid (by simp [u8s, hyk.1])
                        have hst : Hid (decide (z.2 ∈ F.take (jj + 1)) = (decide (z.2 ∈ F.take jj) || decide (y = z.2))) := Lib.hid (by
                          rw [List.take_add_one, hyy, Option.toList_some, Bool.eq_iff_iff, Bool.or_eq_true, decide_eq_true_iff, decide_eq_true_iff, decide_eq_true_iff, List.mem_append, List.mem_singleton]
                          exact ⟨fun h => h.imp id Eq.symm, fun h => h.imp id Eq.symm⟩)
                        have hd : Hid (Below wr.heap.size wr wr.drew) := Lib.hid (below_drewN (Below.refl _ _) 1)
                        have hjj0 : (0 : Int) ≤ (jj : Int) := by omega
                        have hjj1 : (jj : Int) < (j : Int) := by omega
                        obtain ⟨E2, hE2e⟩ : ∃ E2, decide (y = z.2) = E2 := ⟨_, rfl⟩
                        have hEq : Hid (∀ W : World, (binOp .eql 29 (.agg (u8s y).toArray) (.agg (u8s z.2).toArray)).run Try.prog W = .ok (.bool E2) W) := Lib.hid fun W => by rw [← hE2e]; exact eqK hyk.1 hzk'.out.1 W
                        cases E
                        · skip
                          have hE2 : Hid (E2 = decide (z.2 ∈ F.take (jj + 1))) := Lib.hid (by rw [hst.out, ← hE.out, Bool.false_or, hE2e])
                          clear hyy hFl hyk hb4l hb4 hE2e hst hE
                          go_wp2_with fail
                          refine wp_region_held (S := fun W => Below wr.heap.size wr W) (by kernel_rfl) ?_
                          change wpAnyH _ _ _ _ _ _ _ _ (World.drew _)
                          refine tk (i := 0) (d := 125) (v := (.bool false)) rfl rfl (Or.inl ⟨by rfl, by intro W hW; clear hW; go_simp⟩) hd.out ?_
                          simp only [List.setIfInBounds_toArray, List.set_cons_zero, List.set_cons_succ]
                          refine tk (i := 1) (d := 126) (v := (.bool false)) rfl rfl (Or.inl ⟨by rfl, by intro W hW; clear hW; go_simp⟩) hd.out ?_
                          simp only [List.setIfInBounds_toArray, List.set_cons_zero, List.set_cons_succ]
                          refine tk (i := 2) (d := 127) (v := (.slice (some ⟨b4, o4, none⟩) j c4)) rfl rfl (Or.inl ⟨by rfl, by intro W hW; clear hW; go_simp⟩) hd.out ?_
                          simp only [List.setIfInBounds_toArray, List.set_cons_zero, List.set_cons_succ]
                          refine tk (i := 3) (d := 128) (v := (.int .i64 (jj : Int))) rfl rfl (Or.inl ⟨by rfl, by intro W hW; clear hW; go_simp⟩) hd.out ?_
                          simp only [List.setIfInBounds_toArray, List.set_cons_zero, List.set_cons_succ]
                          refine tk (i := 4) (d := 129) (v := (.pointer (some ⟨b4, o4 + jj * 32, none⟩))) rfl rfl (Or.inl ⟨by rfl, by intro W hW; clear hW; go_simp⟩) hd.out ?_
                          simp only [List.setIfInBounds_toArray, List.set_cons_zero, List.set_cons_succ]
                          refine tk (i := 5) (d := 130) (v := (.agg (u8s y).toArray)) rfl rfl (yieldsIf_load_mid (by rfl) 29 _ rfl b4 (o4 + jj * 32) rfl (u8s y) _ hy.out Try.underlying29 rfl (by rw [hy32.out]; exact hi32.out)) hd.out ?_
                          simp only [List.setIfInBounds_toArray, List.set_cons_zero, List.set_cons_succ]
                          refine tk (i := 6) (d := 131) (v := (.slice (some ⟨b, off, none⟩) n c)) rfl rfl (Or.inl ⟨by rfl, by intro W hW; clear hW; go_simp⟩) hd.out ?_
                          simp only [List.setIfInBounds_toArray, List.set_cons_zero, List.set_cons_succ]
                          refine tk (i := 7) (d := 132) (v := (.int .i64 (i : Int))) rfl rfl (Or.inl ⟨by rfl, by intro W hW; clear hW; go_simp⟩) hd.out ?_
                          simp only [List.setIfInBounds_toArray, List.set_cons_zero, List.set_cons_succ]
                          refine tk (i := 8) (d := 133) (v := (.pointer (some ⟨b, off + i * 33, none⟩))) rfl rfl (Or.inl ⟨by rfl, by intro W hW; clear hW; go_simp⟩) hd.out ?_
                          simp only [List.setIfInBounds_toArray, List.set_cons_zero, List.set_cons_succ]
                          refine tk (i := 9) (d := 134) (v := (.pointer (some ⟨b, off + i * 33 + 1, none⟩))) rfl rfl (Or.inl ⟨by rfl, by intro W hW; clear hW; go_simp⟩) hd.out ?_
                          simp only [List.setIfInBounds_toArray, List.set_cons_zero, List.set_cons_succ]
                          refine tk (i := 10) (d := 135) (v := (.agg (u8s z.2).toArray)) rfl rfl (yieldsIf_load_mid (by rfl) 29 _ rfl b (off + i * 33 + 1) rfl (u8s z.2) _ hrk4.out Try.underlying29 rfl (by rw [hz32.out]; exact hi32.out)) hd.out ?_
                          simp only [List.setIfInBounds_toArray, List.set_cons_zero, List.set_cons_succ]
                          refine tk (i := 11) (d := 136) (v := (.bool E2)) rfl rfl (Or.inl ⟨by rfl, by intro W hW; have hh := hEq.out; clear hW; go_simp⟩) hd.out ?_
                          simp only [List.setIfInBounds_toArray, List.set_cons_zero, List.set_cons_succ]
                          refine tk (i := 12) (d := 137) (v := (.bool E2)) rfl rfl (Or.inl ⟨by rfl, by intro W hW; clear hW; go_simp⟩) hd.out ?_
                          simp only [List.setIfInBounds_toArray, List.set_cons_zero, List.set_cons_succ]
                          refine tk (i := 13) (d := 13) (v := (.bool E2)) rfl rfl (Or.inl ⟨by rfl, by intro W hW; clear hW; go_simp⟩) hd.out ?_
                          simp only [List.setIfInBounds_toArray, List.set_cons_zero, List.set_cons_succ]
                          refine wpAnyH_done (by kernel_rfl) ?_ _
                          have hOz := Lib.hid (hO.out.below hd.out (fun k hk => (hO.out.lt k hk).2))
                          have hGz := Lib.hid (hGW.out _ hd.out)
                          go_wp2_with fail
                          go_roundw
                          case rel => exact ⟨jj + 1, E2, by omega, by go_num, rfl, hE2, hOz, hGz⟩
                          case measure => simp [intOf]; omega
                        · skip
                          have hE2 : Hid (true = decide (z.2 ∈ F.take (jj + 1))) := Lib.hid (by rw [hst.out, ← hE.out, Bool.true_or])
                          clear hyy hFl hyk hb4l hb4 hE2e hst hE hEq
                          go_wp2_with fail
                          refine wp_region_held (S := fun W => Below wr.heap.size wr W) (by kernel_rfl) ?_
                          change wpAnyH _ _ _ _ _ _ _ _ (World.drew _)
                          refine tk (i := 0) (d := 125) (v := (.bool true)) rfl rfl (Or.inl ⟨by rfl, by intro W hW; clear hW; go_simp⟩) hd.out ?_
                          simp only [List.setIfInBounds_toArray, List.set_cons_zero, List.set_cons_succ]
                          refine tk (i := 1) (d := 126) (v := (.bool true)) rfl rfl (Or.inl ⟨by rfl, by intro W hW; clear hW; go_simp⟩) hd.out ?_
                          simp only [List.setIfInBounds_toArray, List.set_cons_zero, List.set_cons_succ]
                          refine tk (i := 2) (d := 127) (v := undef) rfl rfl (Or.inr ⟨by rfl, by rfl⟩) hd.out ?_
                          simp only [List.setIfInBounds_toArray, List.set_cons_zero, List.set_cons_succ]
                          refine tk (i := 3) (d := 128) (v := undef) rfl rfl (Or.inr ⟨by rfl, by rfl⟩) hd.out ?_
                          simp only [List.setIfInBounds_toArray, List.set_cons_zero, List.set_cons_succ]
                          refine tk (i := 4) (d := 129) (v := undef) rfl rfl (Or.inr ⟨by rfl, by rfl⟩) hd.out ?_
                          simp only [List.setIfInBounds_toArray, List.set_cons_zero, List.set_cons_succ]
                          refine tk (i := 5) (d := 130) (v := undef) rfl rfl (Or.inr ⟨by rfl, by rfl⟩) hd.out ?_
                          simp only [List.setIfInBounds_toArray, List.set_cons_zero, List.set_cons_succ]
                          refine tk (i := 6) (d := 131) (v := undef) rfl rfl (Or.inr ⟨by rfl, by rfl⟩) hd.out ?_
                          simp only [List.setIfInBounds_toArray, List.set_cons_zero, List.set_cons_succ]
                          refine tk (i := 7) (d := 132) (v := undef) rfl rfl (Or.inr ⟨by rfl, by rfl⟩) hd.out ?_
                          simp only [List.setIfInBounds_toArray, List.set_cons_zero, List.set_cons_succ]
                          refine tk (i := 8) (d := 133) (v := undef) rfl rfl (Or.inr ⟨by rfl, by rfl⟩) hd.out ?_
                          simp only [List.setIfInBounds_toArray, List.set_cons_zero, List.set_cons_succ]
                          refine tk (i := 9) (d := 134) (v := undef) rfl rfl (Or.inr ⟨by rfl, by rfl⟩) hd.out ?_
                          simp only [List.setIfInBounds_toArray, List.set_cons_zero, List.set_cons_succ]
                          refine tk (i := 10) (d := 135) (v := undef) rfl rfl (Or.inr ⟨by rfl, by rfl⟩) hd.out ?_
                          simp only [List.setIfInBounds_toArray, List.set_cons_zero, List.set_cons_succ]
                          refine tk (i := 11) (d := 136) (v := undef) rfl rfl (Or.inr ⟨by rfl, by rfl⟩) hd.out ?_
                          simp only [List.setIfInBounds_toArray, List.set_cons_zero, List.set_cons_succ]
                          refine tk (i := 12) (d := 137) (v := (.bool true)) rfl rfl (Or.inl ⟨by rfl, by intro W hW; clear hW; go_simp⟩) hd.out ?_
                          simp only [List.setIfInBounds_toArray, List.set_cons_zero, List.set_cons_succ]
                          refine tk (i := 13) (d := 13) (v := (.bool true)) rfl rfl (Or.inl ⟨by rfl, by intro W hW; clear hW; go_simp⟩) hd.out ?_
                          simp only [List.setIfInBounds_toArray, List.set_cons_zero, List.set_cons_succ]
                          refine wpAnyH_done (by kernel_rfl) ?_ _
                          have hOz := Lib.hid (hO.out.below hd.out (fun k hk => (hO.out.lt k hk).2))
                          have hGz := Lib.hid (hGW.out _ hd.out)
                          go_wp2_with fail
                          go_roundw
                          case rel => exact ⟨jj + 1, true, by omega, by go_num, rfl, hE2, hOz, hGz⟩
                          case measure => simp [intOf]; omega
                      · obtain rfl : E = true := by
                          have h1 := hE.out
                          rw [List.take_of_length_le (by rw [hM'.out]; omega)] at h1
                          rw [h1]
                          exact decide_eq_true hmem.out
                        go_wp2_with fail
                        go_roundw
                        case rel => exact ⟨i + 1, m1 + 1, by omega, by omega, by go_num, by go_num, hmc1, hO, hG⟩
                        case measure => simp [intOf]; omega
                  · have hand : bits .and .i64 z.1 15 = ((sk z : Nat) : Int) := by rw [and15]; unfold sk; omega
                    have q1 : (((sk z : Nat) : Int) == (s : Int)) = false := by simp; omega
                    have q2 : decide (((sk z : Nat) : Int) = (s : Int)) = false := by simp; omega
                    have q3 : ¬ (((sk z : Nat) : Int) = (s : Int)) := by omega
                    have hmc1 : Hid (m1 = (xs.take (i + 1)).countP (fun z => decide (sk z = s))) := Lib.hid (by rw [hct.out, if_neg hsz, hmc.out]; rfl)
                    clear hz hzk hzr hbl hrg hsz hct
                    go_wp2_with fail
                    go_roundw
                    case rel => exact ⟨i + 1, m1, by omega, by omega, by go_num, rfl, hmc1, hO, hG⟩
                    case measure => simp [intOf]; omega
                · have hin1 := Lib.hid (show i = n by omega)
                  have hmm : (j : Int) ≤ (m1 : Int) + 1 := by
                    have h1 := hmc.out
                    rw [List.take_of_length_le (by rw [hn'.out, hin1.out]; exact Nat.le_refl _)] at h1
                    have := hcnt'.out
                    omega
                  have hj1 : (1 : Int) ≤ (j : Int) := by omega
                  have hj2 : decide (j < 1) = false := decide_eq_false (by omega)
                  have hm2 : (m1 : Int) ≤ 3600000000000 := by omega
                  go_wp2_with fail
                  clear hmm hj1 hj2
                  go_loopw [15] (fun iv wr => ∃ (i : Nat), i ≤ n ∧ iv = .int .i64 (i : Int) ∧ Hid (Below g9 w4 wr)) (fun iv _ => n - (intOf iv).toNat)
                  case atStart => exact ⟨0, by omega, rfl, hG⟩
                  case round =>
                    clear hG hO
                    obtain ⟨i2, hi2, rfl, hG⟩ := hrel
                    by_cases hlt : i2 < n
                    · obtain ⟨z, hz⟩ : ∃ z, xs[i2]? = some z := ⟨_, List.getElem?_eq_getElem (by rw [hn'.out]; exact hlt)⟩
                      obtain ⟨hzk, hzr, b, off, rfl, hbl, hrg⟩ := hA'.out i2 z hz
                      have hrk : Hid (∀ W, Below g9 w4 W → W.rangeAt b (off + i2 * 33 + 1) (u8s z.2)) := Lib.hid fun W hW j v hv => by
                        have := ((hBW.out W hW).cell (p := ⟨b, off + i2 * 33 + (j + 1), none⟩) (by have := hBw'.out; show b < B; omega)).trans (hrg (j + 1) v (by simpa [encP] using hv))
                        rwa [show off + i2 * 33 + 1 + j = off + i2 * 33 + (j + 1) by omega]
                      have hz32 : Hid ((u8s z.2).length = 32) := Lib.hid (by simp [u8s, hzk.1])
                      have hzm := Lib.hid (hxm.out i2 z hz)
                      have hi0 : (0 : Int) ≤ (i2 : Int) := by omega
                      have hin0 : (i2 : Int) < (n : Int) := by omega
                      obtain ⟨C, hC⟩ : ∃ C, cfS f z.2 = C := ⟨_, rfl⟩
                      have hC1 : 1 ≤ C := by rw [← hC]; exact cf_pos (sk_lt z) (hin2.out z hzm.out)
                      have hC16 : C ≤ 16 := by
                        rw [← hC]
                        have := List.countP_le_length (p := fun i => decide (z.2 ∈ f i)) (l := List.range 16)
                        simpa [cfS] using this
                      have hCz : Hid (∀ W, Below g9 w4 W → Calls Try.prog 11 #[.pointer (some ⟨q, 0, none⟩), .agg (u8s z.2).toArray] W fun e w' => e = .returned (.int .i64 (C : Int)) ∧ Below W.heap.size W w') := Lib.hid fun W hW => by
                        have := hCn.out z.2 hzk W (hSt.out W hW)
                        rwa [hC] at this
                      have hq1 : (1 : Int) ≤ (C : Int) := by omega
                      have hq2 : decide (C < 1) = false := decide_eq_false (by omega)
                      have hq3 : (C : Int) ≤ 16 := by omega
                      have hq4 : decide (C = 0) = false := decide_eq_false (by omega)
                      have hq5 : ¬ C = 0 := by omega
                      have hq6 : decide ((C : Int) < 1) = false := decide_eq_false (by omega)
                      have hAz : Hid (∀ W, Below g9 w4 W → PRow W (some ⟨b, off, none⟩) xs) := Lib.hid fun W hW => hA'.out.below (hBW.out W hW) (by rw [hBw'.out]; exact Nat.le_refl _)
                      have hHz : Hid (∀ W, Below g9 w4 W → Calls Try.prog 10 #[.pointer (some ⟨q, 0, none⟩), .int .i64 (s : Int), .agg (u8s z.2).toArray] W fun e w' => e = .returned (.bool (decide (z.2 ∈ f s))) ∧ Below W.heap.size W w') := Lib.hid fun W hW => by
                        have := hHs.out z.2 hzk W (hSt.out W hW)
                        rwa [hF'.out] at this
                      have hCl : Hid (∀ W, Below g9 w4 W → Calls Try.prog 12 #[.slice (some ⟨b, off, none⟩) n c, .int .i64 (s : Int)] W (ClosedP W xs s)) := Lib.hid fun W hW => closed_any W _ n c xs hn'.out (by omega) (hAz.out W hW) s hs16.out
                      have hgr : Hid (∀ W W', Below g9 w4 W → Below W.heap.size W W' → Below g9 w4 W') := Lib.hid fun W W' h h' => h.trans (h'.mono (by rw [← hg9'.out]; exact h.size))
                      have hzk' := Lib.hid hzk
                      have hC' := Lib.hid hC
                      clear hz hzk hzr hbl hrg hC
                      by_cases hms : z.2 ∈ f s
                      · skip
                        have hms' := Lib.hid hms
                        rw [decide_eq_true hms] at hHz
                        obtain ⟨C2, hC2⟩ : ∃ C2, C = C2 + 1 := ⟨C - 1, by omega⟩
                        have hC2' := Lib.hid hC2
                        have hCC : (C : Int) - 1 = (C2 : Int) := by omega
                        clear hms hC2
                        go_wp2_with (first
                          | (refine wpList_load_mid rfl 29 _ rfl b (off + i2 * 33 + 1) rfl (u8s z.2) _ (hrk.out _ hG.out) Try.underlying29 rfl (by rw [hz32.out]; exact hi32.out) ?_)
                          | (refine wpList_load_mid rfl 29 _ rfl b (off + i2 * 33 + 1) rfl (u8s z.2) _ (hrk.out _ hG1.out) Try.underlying29 rfl (by rw [hz32.out]; exact hi32.out) ?_)
                          | (refine wpList_load_mid_g (by rfl) 29 _ rfl b (off + i2 * 33 + 1) rfl (u8s z.2) _ (hrk.out _ hG3.out) Try.underlying29 rfl (by rw [hz32.out]; exact hi32.out) ?_)
                          | (go_at_call 11; refine (hCz.out _ hG.out).mono ?_; rintro e v1 ⟨rfl, b1⟩; have hG1 := Lib.hid (hgr.out _ _ hG.out b1); clear b1 hCz)
                          | (go_at_call 10; refine (hHz.out _ hG1.out).mono ?_; rintro e v2 ⟨rfl, b2⟩; have hG2 := Lib.hid (hgr.out _ _ hG1.out b2); clear b2 hHz)
                          | (go_at_call 12; refine (hCl.out _ hG2.out).mono ?_; rintro e v3 ⟨q2, L2, N2, rfl, p2, l2, a2, b3⟩
                             have hG3 := Lib.hid (hgr.out _ _ hG2.out b3)
                             have hK2 : Hid (Calls Try.prog 11 #[.pointer (some ⟨q2, 0, none⟩), .agg (u8s z.2).toArray] v3 fun e w' => e = .returned (.int .i64 (C2 : Int)) ∧ Below v3.heap.size v3 w') := Lib.hid ((pCount_any v3 q2 _ p2 z.2 hzk'.out).mono fun e w' h => by
                               obtain ⟨h1, h2⟩ := h
                               have h3 := cnt_closed l2 a2 z.2 hs16.out
                               rw [← hf'.out, hC'.out, if_pos hms'.out, hC2'.out] at h3
                               exact ⟨by rw [h1]; congr 2; omega, h2⟩)
                             clear b3 hCl p2 l2 a2)
                          | (go_at_call 11; refine hK2.out.mono ?_; rintro e v4 ⟨rfl, b4⟩; have hG4 := Lib.hid (hgr.out _ _ hG3.out b4); clear b4 hK2))
                        go_roundw
                        case rel => exact ⟨i2 + 1, by omega, by go_num, hG4⟩
                        case measure => simp [intOf]; omega
                      · skip
                        have hms' := Lib.hid hms
                        rw [decide_eq_false hms] at hHz
                        clear hms
                        go_wp2_with (first
                          | (refine wpList_load_mid rfl 29 _ rfl b (off + i2 * 33 + 1) rfl (u8s z.2) _ (hrk.out _ hG.out) Try.underlying29 rfl (by rw [hz32.out]; exact hi32.out) ?_)
                          | (refine wpList_load_mid rfl 29 _ rfl b (off + i2 * 33 + 1) rfl (u8s z.2) _ (hrk.out _ hG1.out) Try.underlying29 rfl (by rw [hz32.out]; exact hi32.out) ?_)
                          | (refine wpList_load_mid_g (by rfl) 29 _ rfl b (off + i2 * 33 + 1) rfl (u8s z.2) _ (hrk.out _ hG3.out) Try.underlying29 rfl (by rw [hz32.out]; exact hi32.out) ?_)
                          | (go_at_call 11; refine (hCz.out _ hG.out).mono ?_; rintro e v1 ⟨rfl, b1⟩; have hG1 := Lib.hid (hgr.out _ _ hG.out b1); clear b1 hCz)
                          | (go_at_call 10; refine (hHz.out _ hG1.out).mono ?_; rintro e v2 ⟨rfl, b2⟩; have hG2 := Lib.hid (hgr.out _ _ hG1.out b2); clear b2 hHz)
                          | (go_at_call 12; refine (hCl.out _ hG2.out).mono ?_; rintro e v3 ⟨q2, L2, N2, rfl, p2, l2, a2, b3⟩
                             have hG3 := Lib.hid (hgr.out _ _ hG2.out b3)
                             have hK2 : Hid (Calls Try.prog 11 #[.pointer (some ⟨q2, 0, none⟩), .agg (u8s z.2).toArray] v3 fun e w' => e = .returned (.int .i64 (C : Int)) ∧ Below v3.heap.size v3 w') := Lib.hid ((pCount_any v3 q2 _ p2 z.2 hzk'.out).mono fun e w' h => by
                               obtain ⟨h1, h2⟩ := h
                               have h3 := cnt_closed l2 a2 z.2 hs16.out
                               rw [← hf'.out, hC'.out, if_neg hms'.out] at h3
                               exact ⟨by rw [h1]; congr 2; omega, h2⟩)
                             clear b3 hCl p2 l2 a2)
                          | (go_at_call 11; refine hK2.out.mono ?_; rintro e v4 ⟨rfl, b4⟩; have hG4 := Lib.hid (hgr.out _ _ hG3.out b4); clear b4 hK2))
                        go_roundw
                        case rel => exact ⟨i2 + 1, by omega, by go_num, hG4⟩
                        case measure => simp [intOf]; omega
                    · go_wp2_with fail
                      exact hpost.out _ (hBW.out _ hG.out)
end Go.Proofs.Ytgjokkjmljdmbaa

/- apart: the walk. -/
import Derived.Test.YtnjbpacnmiimlaaDoorGpG
import Derived.BigRegion
import Derived.Deep.RegionHeld3
namespace Go.Proofs.YtnjbpacnmiimlaaDoor
open Go.RowKit

set_option maxRecDepth 20000 in
set_option maxHeartbeats 1000000 in
theorem apart_any (zs : List Pt) (AL : Option Addr) (m cL B : Nat) (w : World) (hm : zs.length = m) (hmb : m ≤ 8796093022208) (hR : Rd w w.heap.size AL m (fun j => (zAt zs j).v)) (hO : ∀ i, Own w B 5 1 (zAt zs i).A (zAt zs i).l.length (zAt zs i).c (u8s (zAt zs i).l))
    (hlen : ∀ i, (zAt zs i).l.length ≤ 1048576) (hD : ∀ i j, i ≠ j → Dis (zAt zs i).A (zAt zs j).A) (hDL : ∀ i, Dis AL (zAt zs i).A) (hB : B ≤ w.heap.size) :
    Calls Tryd.prog 21 #[.slice AL m cL] w fun e w' => e = .returned (.bool true) ∧ Below B w w' ∧ KeepsOthers w w' := by
  have h0 : Hid (Ow1 zs AL m B w 0 0 w) := Lib.hid ⟨hR, fun i => by rw [curL_zero]; exact hO i, Below.refl _ _, KeepsOthers.refl _⟩
  have hl' := Lib.hid hlen
  have hm' := Lib.hid hm
  clear hm
  have hD' := Lib.hid hD
  have hDL' := Lib.hid hDL
  have hZ' := Lib.hid (show ∀ i j, blockOf (zAt zs i).A = some j → j < w.heap.size from fun i j hj => ((hO i).lt j hj).2)
  have hAL' : Hid (0 < m → ∀ j, blockOf AL = some j → j < w.heap.size) := Lib.hid fun h0 j hj => by
    obtain ⟨b, off, e, hb, _⟩ := hR h0
    rw [e] at hj
    cases hj
    exact hb
  have h00' : Hid (∀ i ad, (zAt zs i).A = some ad → ∃ b, ad = ⟨b, 0, none⟩) := Lib.hid fun i ad had => by
    rcases (hO i).2 with ⟨hv, _⟩ | ⟨g, cap, cur, hv, _⟩
    · injection hv with h1
      rw [had] at h1
      cases h1
    · injection hv with h1
      rw [had] at h1
      exact ⟨g, by injection h1⟩
  clear hR hO hlen hD hDL
  go_enter Tryd.func21, Tryd.ntmps21
  go_wp2_with fail
  go_loopw [3] (fun i wr => ∃ n : Nat, n ≤ m ∧ i = .int .i64 n ∧ Hid (Ow1 zs AL m B w n 0 wr)) (fun i _ => m - (intOf i).toNat)
  case atStart => exact ⟨0, by omega, rfl, h0⟩
  case round =>
    clear h0
    obtain ⟨n, hn, rfl, hW⟩ := hrel
    by_cases hlt : n < m
    · go_wp2_with fail
      go_loopw [4] (fun i wr => ∃ k : Nat, k ≤ (zAt zs n).l.length ∧ i = .int .i64 k ∧ Hid (Ow1 zs AL m B w n k wr)) (fun i _ => (zAt zs n).l.length - (intOf i).toNat)
      case atStart => exact ⟨0, by omega, rfl, hW⟩
      case round =>
        clear hW
        obtain ⟨k, hk, rfl, hW⟩ := hrel
        obtain ⟨b, off, rfl, _, q0⟩ := Rd.get hW.out.row hlt
        have q : wr.cell? ⟨b, off + n, none⟩ = some (Value.slice (zAt zs n).A (zAt zs n).l.length (zAt zs n).c) := q0
        clear q0
        have hLn := hl'.out n
        by_cases hkl : k < (zAt zs n).l.length
        · obtain ⟨g, hg⟩ := (hW.out.own n).head (by omega)
          have hnext := Lib.hid (hW.out.put hkl hg (fun e => hDL'.out n g e (by rw [hg]; rfl)) (fun i hi e => hD'.out i n hi g e (by rw [hg]; rfl)) (Nat.le_trans hB hW.out.bel.size))
          have hgc : ∃ v, wr.cell? ⟨g, k, none⟩ = some v := by
            have ho := hW.out.own n
            rw [hg] at ho
            exact ⟨_, (ho.cell k (by omega)).trans (List.getElem?_eq_getElem (by rw [u8s_length, curL_length hk]; exact hkl))⟩
          have hgf : wr.frozen? ⟨g, k, none⟩ = false := by
            have ho := hW.out.own n
            rw [hg] at ho
            exact ho.frozen k
          obtain ⟨v, hgc⟩ := hgc
          rw [hg] at q
          generalize (zAt zs n).l.length = L at hkl hLn q hk ⊢
          generalize (zAt zs n).c = cz at q ⊢
          go_wp2_with fail
          go_region_with (go_at_call 35; refine (mark_any n k _ (by omega)).mono ?_; rintro e w' ⟨rfl, rfl⟩)
          all_goals (go_wp2_with fail)
          all_goals
            go_roundw
            case rel => exact ⟨k + 1, by omega, by go_num, Lib.hid hnext.out.drew⟩
            case measure => simp [intOf]; omega
        · obtain rfl : k = (zAt zs n).l.length := by omega
          have hnext := Lib.hid hW.out.next
          generalize (zAt zs n).l.length = L at hk hkl hLn q hW ⊢
          go_wp2_with fail
          go_roundw
          case rel => exact ⟨n + 1, by omega, by go_num, hnext⟩
          case measure => simp [intOf]; omega
    · obtain rfl : n = m := by omega
      have h2 := Lib.hid (hW.out.grow0 hm'.out (fun _ => (none, 0)) hD'.out hDL'.out)
      clear hW
      go_wp2_with fail
      go_loopw [5, 6] (fun s i wr => ∃ (q : Nat) (gs : Gs) (AG : Option Addr) (cG : Nat), q ≤ n ∧ i = .int .i64 q ∧ s = .slice AG q cG ∧ Hid (Ow2 zs AL n B w gs q 0 AG cG (zAt zs q).A (zAt zs q).c wr)) (fun _ i _ => n - (intOf i).toNat)
      case atStart => exact ⟨0, _, none, 0, by omega, rfl, rfl, h2⟩
      case round =>
        clear h2 hlt hn
        obtain ⟨q, gs, AG, cG, hq, rfl, rfl, hW⟩ := hrel
        by_cases hlt : q < n
        · have ho0 := Lib.hid (hW.out.cur)
          obtain ⟨b, off, rfl, _, q0⟩ := Rd.get hW.out.row hlt
          have qc : wr.cell? ⟨b, off + q, none⟩ = some (Value.slice (zAt zs q).A (zAt zs q).l.length (zAt zs q).c) := q0
          clear q0
          have hLn := hl'.out q
          go_wp2_with fail
          clear qc
          go_loopw [7, 8] (fun s i wr => ∃ (k : Nat) (Ag : Option Addr) (cg M : Nat), k ≤ 40 ∧ i = .int .i64 k ∧ (zAt zs q).l.length + k = M ∧ s = .slice Ag M cg ∧ Hid (Ow2 zs (some ⟨b, off, none⟩) n B w gs q k AG cG Ag cg wr)) (fun _ i _ => 40 - (intOf i).toNat)
          case atStart => exact ⟨0, _, _, (zAt zs q).l.length, by omega, rfl, rfl, rfl, hW⟩
          case round =>
            clear hW ho0
            obtain ⟨k, Ag, cg, M, hk, rfl, hM, rfl, hW⟩ := hrel
            by_cases hk7 : k < 40
            · obtain ⟨b2, off2, e2, _, q0⟩ := Rd.get hW.out.row hlt
              cases e2
              have qc : wr.cell? ⟨b, off + q, none⟩ = some (Value.slice (zAt zs q).A (zAt zs q).l.length (zAt zs q).c) := q0
              clear q0
              have hown := hW.out.cur
              rw [hM] at hown
              have hsz := hW.out.bel.size
              have iM : ((zAt zs q).l.length : Int) + (k : Int) = (M : Int) := by omega
              go_wp2_with (first
                | (go_at_call 35; refine (mark_any q M _ (by omega)).mono ?_; rintro e w1 ⟨rfl, rfl⟩)
                | (at_builtin; refine wpList_app1 elB _ #[_] rfl rfl _ _ rfl rfl hown rfl (by intro u hu; simp at hu; subst hu; rfl) (by unfold maxLen; omega) (by omega) (Nat.le_trans hB hsz) (M + 1) rfl _ rfl ?_; intro A' c' w' hown' hat hb'))
              have hnx := Lib.hid (hW.out.grow hat (by
                have e : (zAt zs q).l.length + (k + 1) = M + 1 := by omega
                rw [e, ← markL_succ, ← u8s_snoc]
                exact hown') hZ'.out (hAL'.out (by omega)) (Nat.le_trans hB hsz) (hW.out.lng.unlike hW.out.cur (by decide)) (h00'.out q))
              go_roundw
              case rel => exact ⟨k + 1, A', c', M + 1, by omega, by go_num, by omega, rfl, hnx⟩
              case measure => simp [intOf]; omega
            · obtain rfl : k = 40 := by omega
              have hown := hW.out.lng
              have hsz := hW.out.bel.size
              go_wp2_with (at_builtin; refine wpList_app1 elS _ #[_] rfl rfl _ _ rfl rfl hown rfl (by intro u hu; simp at hu; subst hu; rfl) (by unfold maxLen; omega) (by omega) hsz (q + 1) rfl _ rfl ?_; intro A' c' w' hown' hat hb')
              rw [← hM] at hown'
              obtain ⟨gs2, _, hnx⟩ := hW.out.done hat hown' (hAL'.out (by omega)) hB (fun X ⟨_, _, _, _, hx⟩ => hW.out.lng.unlike hx (by decide)) (fun i j h1 h2 => by have := hZ'.out i j h1; have := (hW.out.lng.lt j h2).1; omega) hD'.out hDL'.out hsz
              have hnx' := Lib.hid hnx
              go_roundw
              case rel => exact ⟨q + 1, gs2, A', c', by omega, by go_num, rfl, hnx'⟩
              case measure => simp [intOf]; omega
        · obtain rfl : n = q := by omega
          have hbz := Lib.hid hW.out.bel
          have hoz := Lib.hid hW.out.oth
          go_wp2_with fail
          go_loopw [9] (fun i wv => ∃ p x : Nat, p ≤ n ∧ i = .int .i64 p ∧ wv = wr.drewN x) (fun i _ => n - (intOf i).toNat)
          case atStart => exact ⟨0, 0, by omega, rfl, rfl⟩
          case round =>
            obtain ⟨p, x, hp, rfl, rfl⟩ := hrel
            by_cases hpn : p < n
            · obtain ⟨G, hG⟩ := hW.out.lng.head (by omega)
              have hlg := hW.out.lng
              rw [hG] at hlg
              have c1 : wr.cell? ⟨G, p, none⟩ = some (.slice (gs p).1 ((zAt zs p).l.length + 40) (gs p).2) := (hlg.cell p (by omega)).trans (by simp [grL, hpn])
              have hro := hW.out.gro p hpn
              obtain ⟨gp, hgp⟩ := hro.head (by omega)
              rw [hgp] at hro c1
              have hLp := hl'.out p
              have hred := Lib.hid (hW.out.red p)
              have hro' := Lib.hid hro
              obtain ⟨b, off, rfl, _, q0⟩ := Rd.get hW.out.row hpn
              have c3 : wr.cell? ⟨b, off + p, none⟩ = some (Value.slice (zAt zs p).A (zAt zs p).l.length (zAt zs p).c) := q0
              clear q0 hlg hro
              subst hG
              generalize (zAt zs p).l.length = L at c1 c3 hLp hred hro'
              generalize (zAt zs p).A = Ap at c3 hred
              generalize (zAt zs p).c = cp at c3
              generalize (gs p).2 = cq at c1 hro'
              go_wp2_with fail
              go_loopw [10] (fun i wv => ∃ k x : Nat, k ≤ L ∧ i = .int .i64 k ∧ wv = wr.drewN x) (fun i _ => L - (intOf i).toNat)
              case atStart => exact ⟨0, x, by omega, rfl, rfl⟩
              case round =>
                obtain ⟨k, x2, hk, rfl, rfl⟩ := hrel
                by_cases hkL : k < L
                · obtain ⟨y, hy⟩ : ∃ y, markF p k = y := ⟨_, rfl⟩
                  have hmk : Hid (∀ W : World, Calls Tryd.prog 35 #[.int .i64 p] W fun e w' => e = .returned (.int .u8 (y : Nat)) ∧ W = w') := Lib.hid fun W => by
                    rw [← hy]
                    exact mark_any p k W (by omega)
                  obtain ⟨b1, off1, rfl, _, q1⟩ := hred.out.get (k := k) (by rw [markL_length]; exact hkL)
                  rw [markL_at _ _ _ hkL, Option.getD_some, hy] at q1
                  have q1' : wr.cell? ⟨b1, off1 + k, none⟩ = some (.int .u8 (y : Nat)) := q1
                  have i0 : (0 : Int) ≤ (k : Int) := by omega
                  clear q1 hy c1
                  go_wp2_with fail
                  go_quiet ((go_at_call 35; first | exact quiet_l2 hmk.out | exact quiet_l hmk.out))
                  go_wp2_with fail
                  go_roundw
                  case rel => exact ⟨k + 1, _, by omega, by go_num, rfl⟩
                  case measure => simp [intOf]; omega
                · obtain rfl : k = L := by omega
                  go_wp2_with fail
                  clear hkL hk
                  go_loopw [11] (fun i wv => ∃ j x : Nat, j ≤ k + 40 ∧ i = .int .i64 j ∧ wv = wr.drewN x) (fun i _ => k + 40 - (intOf i).toNat)
                  case atStart => exact ⟨0, x2, by omega, rfl, rfl⟩
                  case round =>
                    obtain ⟨j, x3, hj, rfl, rfl⟩ := hrel
                    by_cases hj7 : j < k + 40
                    · obtain ⟨y, hy⟩ : ∃ y, markF p j = y := ⟨_, rfl⟩
                      have q2 : wr.cell? ⟨gp, j, none⟩ = some (.int .u8 (y : Nat)) := (hro'.out.cell j (by omega)).trans (by rw [u8s_get _ _ (by rw [markL_length]; omega), markL_at _ _ _ (by omega), hy]; rfl)
                      have hmk : Hid (∀ W : World, Calls Tryd.prog 35 #[.int .i64 p] W fun e w' => e = .returned (.int .u8 (y : Nat)) ∧ W = w') := Lib.hid fun W => by
                        rw [← hy]
                        exact mark_any p j W (by omega)
                      have i2 : (j : Int) < (k : Int) + 40 := by omega
                      have i0 : (0 : Int) ≤ (j : Int) := by omega
                      clear hy c3
                      go_wp2_with fail
                      go_quiet ((go_at_call 35; first | exact quiet_l2 hmk.out | exact quiet_l hmk.out))
                      go_wp2_with fail
                      go_roundw
                      case rel => exact ⟨j + 1, _, by omega, by go_num, rfl⟩
                      case measure => simp [intOf]; omega
                    · obtain rfl : j = k + 40 := by omega
                      go_wp2_with fail
                      go_roundw
                      case rel => exact ⟨p + 1, x3, by omega, by go_num, rfl⟩
                      case measure => simp [intOf]; omega
            · go_wp2_with fail
              go_ret
              exact ⟨rfl, below_drewN hbz.out _, ⟨hoz.out.size, hoz.out.same⟩⟩
end Go.Proofs.YtnjbpacnmiimlaaDoor

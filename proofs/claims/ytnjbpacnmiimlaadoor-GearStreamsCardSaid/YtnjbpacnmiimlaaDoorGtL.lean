/- GearStreams: are lists of lists alike? -/
import Derived.Test.YtnjbpacnmiimlaaDoorGtH
import Derived.Test.YtnjbpacnmiimlaaDoorGSame
namespace Go.Proofs.YtnjbpacnmiimlaaDoor
open Go.RowKit

theorem quiet_d {P : Program} {f : FuncId} {args : Array Value} {w : World} {n : Nat} {v : Value} (h : Calls P f args (w.drewN n) fun e w' => e = .returned v ∧ ∃ m, w' = (w.drewN n).drewN m) :
    Calls P f args (w.drewN n) fun e w'' => e = .returned v ∧ ∃ m, w'' = w.drewN m :=
  h.mono fun _ _ ⟨he, m, hm⟩ => ⟨he, n + m, by rw [hm, World.drewN_drewN]⟩

set_option maxRecDepth 20000 in
set_option maxHeartbeats 1000000 in
theorem sameLists_any (gz zs : List Pt) (Ag Ao : Option Addr) (N M cg co B1 B2 : Nat) (w : World) (hN : gz.length = N) (hM : zs.length = M) (he : gz.map Pt.l = zs.map Pt.l) (hj : N ≤ 1125899906842624) (og : Own w B1 24 1 Ag N cg (gz.map Pt.v)) (oo : Own w B2 24 1 Ao M co (zs.map Pt.v))
    (bg : ∀ z ∈ gz, Byt w w.heap.size z.A z.l) (bo : ∀ z ∈ zs, Byt w w.heap.size z.A z.l) (hl : ∀ z ∈ gz, z.l.length ≤ 1125899906842624) :
    Calls Tryd.prog 28 #[.slice Ag N cg, .slice Ao M co] w fun e w' => e = .returned (.bool true) ∧ ∃ m, w' = w.drewN m := by
  have hNM : N = M := by
    have := congrArg List.length he
    simp at this
    omega
  subst hNM
  have hg' := Lib.hid og
  have ho' := Lib.hid oo
  have bg' := Lib.hid bg
  have bo' := Lib.hid bo
  have he' := Lib.hid he
  have hl' := Lib.hid hl
  have hN' := Lib.hid hN
  have hM' := Lib.hid hM
  clear og oo bg bo he hl hN hM
  go_enter Tryd.func28, Tryd.ntmps28
  go_wp2_with fail
  go_loopw [5] (fun i wr => ∃ k m : Nat, k ≤ N ∧ i = .int .i64 k ∧ wr = w.drewN m) (fun i _ => N - (intOf i).toNat)
  case atStart => exact ⟨0, 0, Nat.zero_le _, rfl, rfl⟩
  case round =>
    obtain ⟨k, m, hk, rfl, rfl⟩ := hrel
    by_cases hlt : k < N
    · obtain ⟨g1, hg1⟩ := hg'.out.head (by omega)
      obtain ⟨g2, hg2⟩ := ho'.out.head (by omega)
      have a1 := hg'.out
      have a2 := ho'.out
      rw [hg1] at a1
      rw [hg2] at a2
      have k1 : k < gz.length := by rw [hN'.out]; exact hlt
      have k2 : k < zs.length := by rw [hM'.out]; exact hlt
      have q1 : w.cell? ⟨g1, k, none⟩ = some (gz[k]).v := (a1.cell k (by omega)).trans (by rw [List.getElem?_map, List.getElem?_eq_getElem k1]; rfl)
      have q2 : w.cell? ⟨g2, k, none⟩ = some (zs[k]).v := (a2.cell k (by omega)).trans (by rw [List.getElem?_map, List.getElem?_eq_getElem k2]; rfl)
      have hll : (gz[k]).l = (zs[k]).l := by
        have h1 : (gz.map Pt.l)[k]? = (zs.map Pt.l)[k]? := by rw [he'.out]
        rw [List.getElem?_map, List.getElem?_map, List.getElem?_eq_getElem k1, List.getElem?_eq_getElem k2] at h1
        simpa using h1
      have b1 := bg'.out _ (List.getElem_mem k1)
      have b2 := bo'.out _ (List.getElem_mem k2)
      have hlk := hl'.out _ (List.getElem_mem k1)
      generalize gz[k] = z1 at q1 hll b1 hlk
      generalize zs[k] = z2 at q2 hll b2
      obtain ⟨A1, l1, c1⟩ := z1
      obtain ⟨A2, l2, c2⟩ := z2
      simp only [Pt.v] at q1 q2
      simp only at hll b1 b2 hlk
      subst hll
      obtain ⟨y, hy⟩ : ∃ y, Hid (l1.length = y) := ⟨_, Lib.hid rfl⟩
      unfold Byt at b1 b2
      rw [hy.out] at q1 q2 b1 b2 hlk
      have hsb := Lib.hid fun q : Nat => same_eq A1 A2 c1 c2 y (fun j => ((l1[j]?.getD 0 : Nat) : Int)) w.heap.size w.heap.size (w.drewN q) (by omega) (Rd.drewN b1 q) (Rd.drewN b2 q)
      have i0 : (0 : Int) ≤ (k : Int) := by omega
      subst hg1
      subst hg2
      clear a1 a2 b1 b2 k1 k2
      go_wp2_with fail
      go_quiet ((go_at_call 20; first | exact quiet_d2 (hsb.out _) | exact quiet_d (by rw [World.drewN_drewN]; exact hsb.out _)))
      go_wp2_with fail
      go_roundw
      case rel => exact ⟨k + 1, _, by omega, by go_num, rfl⟩
      case measure => simp [intOf]; omega
    · obtain rfl : k = N := by omega
      go_wp2_with fail
      go_ret
      exact ⟨rfl, m, rfl⟩
end Go.Proofs.YtnjbpacnmiimlaaDoor

/- FrameExact: reads. -/
import Derived.Test.YtjofpjioaiamhaaFxPk
namespace Go.Proofs.Ytjofpjioaiamhaa
open Go.RowKit

theorem unpL_len (l : List Nat) (at_ : Int) : (unpL l at_).2.2.length ≤ 65536 := by
  unfold unpL
  split
  · exact Nat.zero_le _
  · by_cases h : (unpF (l.drop at_.toNat)).1 = 0
    · have := (unpF_size h).2.2
      omega
    · rw [unpF_err h]
      exact Nat.zero_le _

set_option maxRecDepth 20000 in
set_option maxHeartbeats 1000000 in
theorem fxreads_any (rl : List Nat) (AR Ar : Option Addr) (v0 v3 : Value) (at_ : Int) (n cR cr : Nat) (w : World) (hl : ∀ b ∈ rl, b < 256) (hn : rl.length = n) (hnR : n ≤ 140737488351232) (h1 : Byt w w.heap.size AR rl) (h2 : Byt w w.heap.size Ar rl) (hc1 : n ≤ cr) (hc2 : cr ≤ maxLen) :
    Calls Try.prog 19 #[.agg #[v0, .slice AR n cR, .int .i64 at_, v3], .slice Ar n cr] w fun e w' => e = .returned (.bool true) ∧ Below w.heap.size w w' := by
  obtain ⟨err, size, R, hr⟩ : ∃ err size R, unpL rl at_ = (err, size, R) := ⟨_, _, _, rfl⟩
  have hRm : R.length ≤ 65536 := by
    have := unpL_len rl at_
    rw [hr] at this
    exact this
  have hp2 : Hid (∀ (W : World), Below w.heap.size w W → Calls Try.prog 32 #[.slice AR n cR, .int .i64 at_] W fun e w' => Unp W w' e (err, size, R)) := Lib.hid fun W hb => by
    rw [← hr]
    exact unpack2_any rl at_ AR n cR w.heap.size W hl hn (by omega) hb.size (h1.below hb)
  have hp1 : Hid (∀ (W : World), Below w.heap.size w W → Calls Try.prog 14 #[.slice Ar n cr, .int .i64 at_] W fun e w' => Unp W w' e (err, size, R)) := Lib.hid fun W hb => by
    rw [← hr]
    exact unpack_any rl at_ Ar n cr w.heap.size W hl hn hc1 hc2 (by omega) hb.size (h2.below hb)
  have hb0 := Lib.hid (Hb.new w 39 v0 (.slice AR n cR) (.int .i64 at_) v3)
  have h1' := Lib.hid h1
  have h2' := Lib.hid h2
  have hn' := Lib.hid hn
  clear hl hn h1 h2 hr
  go_enter Try.func19, Try.ntmps19
  go_wp2_with fail
  have hs1 : w.heap.size < (w.alloc (.cells #[v0, .slice AR n cR, .int .i64 at_, v3] 39)).heap.size := by simp
  obtain ⟨w1, hw1⟩ : ∃ w1, w.alloc (.cells #[v0, .slice AR n cR, .int .i64 at_, v3] 39) = w1 := ⟨_, rfl⟩
  rw [hw1] at hb0 hs1 ⊢
  clear hw1
  obtain ⟨_, q1, q2, _, hb1⟩ := hb0.out
  have hb1' := Lib.hid hb1
  clear hb1
  go_wp2_with (first
    | (go_at_call 32; refine (hp2.out _ hb1'.out).mono ?_; rintro e w2 ⟨Aw, cw, rfl, ow, hb2⟩; have ow' := Lib.hid ow; have hB2 := Lib.hid (hb1'.out.trans (hb2.mono hb1'.out.size)); have hC2 := Lib.hid hb2; have q12 := (hb2.cell (p := ⟨w.heap.size, 1, none⟩) hs1).trans q1; have q22 := (hb2.cell (p := ⟨w.heap.size, 2, none⟩) hs1).trans q2; clear ow hb2 hp2 q1 q2)
    | (go_at_call 14; refine (hp1.out _ hB2.out).mono ?_; rintro e w3 ⟨Aa, ca, rfl, oa, hb3⟩; have oa' := Lib.hid oa; have hB3 := Lib.hid (hB2.out.trans (hb3.mono hB2.out.size)); have hC3 := Lib.hid (hC2.out.trans (hb3.mono hC2.out.size)); have ow3 := Lib.hid (ow'.out.below hb3 fun k hk => (ow'.out.lt k hk).2); have hp1' := Lib.hid hp1.out; have q13 := (hb3.cell (p := ⟨w.heap.size, 1, none⟩) (Nat.lt_of_lt_of_le hs1 hC2.out.size)).trans q12; have q23 := (hb3.cell (p := ⟨w.heap.size, 2, none⟩) (Nat.lt_of_lt_of_le hs1 hC2.out.size)).trans q22; clear oa hb3 hp1 ow' q12 q22)
    | (go_at_call 14; refine (hp1'.out _ hB3.out).mono ?_; rintro e w4 ⟨Ab, cb2, rfl, ob, hb4⟩; have ob' := Lib.hid ob; have hB4 := Lib.hid (hB3.out.trans (hb4.mono hB3.out.size)); have hC4 := Lib.hid (hC3.out.trans (hb4.mono hC3.out.size)); have ow4 := Lib.hid (ow3.out.below hb4 fun k hk => (ow3.out.lt k hk).2); have oa4 := Lib.hid (oa'.out.below hb4 fun k hk => (oa'.out.lt k hk).2); have dab := Lib.hid (Dis.of_lt (fun k hk => (oa'.out.lt k hk).2) (fun k hk => (ob'.out.lt k hk).1)); have s4 := Lib.hid hb4.size; have q14 := (hb4.cell (p := ⟨w.heap.size, 1, none⟩) (Nat.lt_of_lt_of_le hs1 hC3.out.size)).trans q13; clear ob hb4 hp1' ow3 q13 q23))
  have oax := Lib.hid oa4.out
  have hown := Lib.hid fun k => own_list (W := w4.drewN k) (B := w1.heap.size) [⟨Aa, R, ca⟩, ⟨Ab, R, cb2⟩] hC4.out.size (by
            intro x hx
            simp only [List.mem_cons, List.not_mem_nil, or_false] at hx
            rcases hx with rfl | rfl
            · exact ((oa4.out.base hC2.out.size).drewN k)
            · exact ((ob'.out.base hC3.out.size).drewN k)) (by
            intro x hx
            simp only [List.mem_cons, List.not_mem_nil, or_false] at hx
            rcases hx with rfl | rfl
            · show R.length ≤ _
              omega
            · show R.length ≤ _
              omega) (by
            simp only [List.pairwise_cons, List.mem_cons, List.not_mem_nil, or_false, forall_eq, false_imp_iff, implies_true, and_true, List.Pairwise.nil]
            exact dab.out) (by simp) 23 2
  go_wp2_with (first
    | (go_at_call 15; refine (same_eq Aa Aw ca cw R.length (fun j => ((R[j]?.getD 0 : Nat) : Int)) _ _ _ (by omega) (oax.out.bs rfl) (ow4.out.bs rfl)).mono ?_; rintro e w' ⟨rfl, k1, rfl⟩; clear oax)
    | (go_at_call 15; refine (same_eq Ab Aw cb2 cw R.length (fun j => ((R[j]?.getD 0 : Nat) : Int)) _ _ _ (by omega) ((ob'.out.drewN _).bs rfl) ((ow4.out.drewN _).bs rfl)).mono ?_; rintro e w' ⟨rfl, k2, rfl⟩; clear ob')
    | (go_at_call 31; refine (hown.out _).mono ?_; rintro e w9 ⟨rfl, hb9⟩; have q19 := (hb9.cell (p := ⟨w.heap.size, 1, none⟩) hs1).trans q14; have hB9 := Lib.hid (hB4.out.trans ((below_drewN (Below.refl _ w4) _).trans (hb9.mono hb1'.out.size))); clear hb9 hown q14)
    | (go_at_call 15; refine (same_eq Ar AR cr cR n (fun j => ((rl[j]?.getD 0 : Nat) : Int)) w.heap.size w.heap.size _ (by omega) (hn'.out ▸ h2'.out.below hB9.out) (hn'.out ▸ h1'.out.below hB9.out)).mono ?_; rintro e w' ⟨rfl, k3, rfl⟩))
  go_ret
  exact ⟨rfl, below_drewN hB9.out _⟩
end Go.Proofs.Ytjofpjioaiamhaa

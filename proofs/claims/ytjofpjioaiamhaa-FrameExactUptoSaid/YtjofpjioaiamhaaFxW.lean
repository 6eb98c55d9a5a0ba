/- FrameExact: the law's walk. -/
import Derived.Test.YtjofpjioaiamhaaFxGo
namespace Go.Proofs.Ytjofpjioaiamhaa
open Go.RowKit

/-- What stands between the parts: the boxed argument, the two lists with their marks. -/
structure FxSt (w : World) (c0 c1 c2 c3 : Value) (bl rl : List Nat) (gb gr cb cr : Nat) (W : World) : Prop where
  bel : Below w.heap.size w W
  q0 : W.cell? ⟨w.heap.size, 0, none⟩ = some c0
  q1 : W.cell? ⟨w.heap.size, 1, none⟩ = some c1
  q2 : W.cell? ⟨w.heap.size, 2, none⟩ = some c2
  q3 : W.cell? ⟨w.heap.size, 3, none⟩ = some c3
  ob : Own W (w.heap.size + 1) 5 1 (some ⟨gb, 0, none⟩) (bl.length + 70) cb (u8s (roomL bl))
  or_ : Own W (w.heap.size + 1) 5 1 (some ⟨gr, 0, none⟩) (rl.length + 70) cr (u8s (roomL rl))
  ne : gb ≠ gr
section
variable {w W W' : World} {c0 c1 c2 c3 : Value} {bl rl : List Nat} {gb gr cb cr : Nat}
theorem FxSt.lt (h : FxSt w c0 c1 c2 c3 bl rl gb gr cb cr W) : w.heap.size < W.heap.size := World.block_lt_of_cell? _ _ h.q0
theorem FxSt.keep (h : FxSt w c0 c1 c2 c3 bl rl gb gr cb cr W) (hb : Below W.heap.size W W') : FxSt w c0 c1 c2 c3 bl rl gb gr cb cr W' :=
  ⟨h.bel.trans (hb.mono h.bel.size), (hb.cell (p := ⟨w.heap.size, 0, none⟩) h.lt).trans h.q0, (hb.cell (p := ⟨w.heap.size, 1, none⟩) h.lt).trans h.q1, (hb.cell (p := ⟨w.heap.size, 2, none⟩) h.lt).trans h.q2, (hb.cell (p := ⟨w.heap.size, 3, none⟩) h.lt).trans h.q3, h.ob.below hb fun k hk => (h.ob.lt k hk).2, h.or_.below hb fun k hk => (h.or_.lt k hk).2, h.ne⟩
theorem FxSt.turned (h : FxSt w c0 c1 c2 c3 bl rl gb gr cb cr W) {g : Nat} (hg : W.grownBy W' (some g)) (hlo : w.heap.size + 1 ≤ g) (h1 : Own W' (w.heap.size + 1) 5 1 (some ⟨gb, 0, none⟩) (bl.length + 70) cb (u8s (roomL bl))) (h2 : Own W' (w.heap.size + 1) 5 1 (some ⟨gr, 0, none⟩) (rl.length + 70) cr (u8s (roomL rl))) : FxSt w c0 c1 c2 c3 bl rl gb gr cb cr W' := by
  have hc : ∀ k, k ≤ w.heap.size → W'.heap[k]? = W.heap[k]? := fun k hk => hg.block k (by have := h.lt; omega) (by intro e; injection e; omega)
  have hs := h.bel.size
  refine ⟨⟨hg.os.trans h.bel.os, hg.tape.trans h.bel.tape, hg.output.trans h.bel.output, Nat.le_trans h.bel.size hg.size, fun k hk => (hc k (by omega)).trans (h.bel.block k hk)⟩, ?_, ?_, ?_, ?_, h1, h2, h.ne⟩
  · exact (World.cell?_of_block (a := ⟨w.heap.size, 0, none⟩) (hc _ (Nat.le_refl _))).trans h.q0
  · exact (World.cell?_of_block (a := ⟨w.heap.size, 1, none⟩) (hc _ (Nat.le_refl _))).trans h.q1
  · exact (World.cell?_of_block (a := ⟨w.heap.size, 2, none⟩) (hc _ (Nat.le_refl _))).trans h.q2
  · exact (World.cell?_of_block (a := ⟨w.heap.size, 3, none⟩) (hc _ (Nat.le_refl _))).trans h.q3
theorem FxSt.turnB (h : FxSt w c0 c1 c2 c3 bl rl gb gr cb cr W) (hg : W.grownBy W' (some gb)) (h1 : Own W' (w.heap.size + 1) 5 1 (some ⟨gb, 0, none⟩) (bl.length + 70) cb (u8s (roomL bl))) : FxSt w c0 c1 c2 c3 bl rl gb gr cb cr W' :=
  h.turned hg (h.ob.lt gb rfl).1 h1 (h.or_.kept hg fun k hk e => h.ne (by cases hk; injection e))
theorem FxSt.turnR (h : FxSt w c0 c1 c2 c3 bl rl gb gr cb cr W) (hg : W.grownBy W' (some gr)) (h2 : Own W' (w.heap.size + 1) 5 1 (some ⟨gr, 0, none⟩) (rl.length + 70) cr (u8s (roomL rl))) : FxSt w c0 c1 c2 c3 bl rl gb gr cb cr W' :=
  h.turned hg (h.or_.lt gr rfl).1 (h.ob.kept hg fun k hk e => h.ne (by cases hk; injection e; exact Eq.symm (by assumption))) h2
theorem FxSt.raw (h : FxSt w c0 c1 c2 c3 bl rl gb gr cb cr W) : Byt W W.heap.size (some ⟨gr, 0, none⟩) rl := by
  have := byt_take (m := rl.length) h.or_.byt (by rw [roomL_length]; omega)
  rw [roomL_take] at this
  exact this
end

set_option maxRecDepth 20000 in
set_option maxHeartbeats 1000000 in
theorem fxExact_any (bl rl : List Nat) (AB AR : Option Addr) (at_ : Int) (Sm nB nR cB cR : Nat) (w : World) (hbl : ∀ b ∈ bl, b < 256) (hrl : ∀ b ∈ rl, b < 256) (hnB : bl.length = nB) (hnR : rl.length = nR) (hmB : nB ≤ 1048576) (hmR : nR ≤ 1048576) (hS : Sm < 4294967296)
    (h1 : Byt w w.heap.size AB bl) (h2 : Byt w w.heap.size AR rl) :
    Calls Try.prog 6 #[.agg #[.slice AB nB cB, .slice AR nR cR, .int .i64 at_, .int .u32 Sm]] w fun e w' => e = .returned (.bool true) ∧ Below w.heap.size w w' := by
  have hb0 := Lib.hid (Hb.new w 39 (.slice AB nB cB) (.slice AR nR cR) (.int .i64 at_) (.int .u32 Sm))
  have h1' := Lib.hid h1
  have h2' := Lib.hid h2
  have hbl' := Lib.hid hbl
  have hrl' := Lib.hid hrl
  have hnB' := Lib.hid hnB
  have hnR' := Lib.hid hnR
  clear h1 h2 hbl hrl hnB hnR
  go_enter Try.func6, Try.ntmps6
  go_wp2_with fail
  have hs1 : w.heap.size < (w.alloc (.cells #[.slice AB nB cB, .slice AR nR cR, .int .i64 at_, .int .u32 Sm] 39)).heap.size := by simp
  obtain ⟨w1, hw1⟩ : ∃ w1, w.alloc (.cells #[.slice AB nB cB, .slice AR nR cR, .int .i64 at_, .int .u32 Sm] 39) = w1 := ⟨_, rfl⟩
  rw [hw1] at hb0 hs1 ⊢
  clear hw1
  obtain ⟨q0, q1, q2, q3, hb1⟩ := hb0.out
  have hb1' := Lib.hid hb1
  clear hb1 hb0
  have hr1 := Lib.hid (roomy_any w1 bl AB nB cB hnB'.out ((h1'.out.below hb1'.out).mono hb1'.out.size) (by omega))
  have hr2 := Lib.hid fun (W : World) (hW : Below w.heap.size w W) => roomy_any W rl AR nR cR hnR'.out ((h2'.out.below hW).mono hW.size) (by omega)
  go_wp2_with (first
    | (go_at_call 16; refine hr1.out.mono ?_; rintro e w2 ⟨⟨gb, cb, rfl, ob⟩, hb2⟩; rw [hnB'.out] at ob ⊢; have ob2 := Lib.hid ob; have hb2' := Lib.hid hb2; have q12 := (hb2.cell (p := ⟨w.heap.size, 1, none⟩) hs1).trans q1; clear ob hb2 hr1 q1)
    | (go_at_call 16; refine (hr2.out _ (hb1'.out.trans (hb2'.out.mono hb1'.out.size))).mono ?_; rintro e w3 ⟨⟨gr, cr, rfl, orr⟩, hb3⟩
       have hs2 := hb2'.out.size
       have h3 : Hid (FxSt w (.slice AB nB cB) (.slice AR nR cR) (.int .i64 at_) (.int .u32 Sm) bl rl gb gr cb cr w3) := Lib.hid
         ⟨(hb1'.out.trans (hb2'.out.mono hb1'.out.size)).trans (hb3.mono (by omega)), (hb3.cell (p := ⟨w.heap.size, 0, none⟩) (by simp only; omega)).trans ((hb2'.out.cell (p := ⟨w.heap.size, 0, none⟩) hs1).trans q0), (hb3.cell (p := ⟨w.heap.size, 1, none⟩) (by simp only; omega)).trans q12,
          (hb3.cell (p := ⟨w.heap.size, 2, none⟩) (by simp only; omega)).trans ((hb2'.out.cell (p := ⟨w.heap.size, 2, none⟩) hs1).trans q2), (hb3.cell (p := ⟨w.heap.size, 3, none⟩) (by simp only; omega)).trans ((hb2'.out.cell (p := ⟨w.heap.size, 3, none⟩) hs1).trans q3),
          by rw [hnB'.out]; exact (ob2.out.base hs1).below hb3 (fun k hk => (ob2.out.lt k hk).2), orr.base (by omega), by have a1 := (ob2.out.lt gb rfl).2; have a2 := (orr.lt gr rfl).1; omega⟩
       rw [hnR'.out]
       clear orr hb3 hr2 q12 q0 q2 q3 ob2 hb2')
    | (go_at_call 13; refine (works_any _).mono ?_; rintro e w4 ⟨rfl, hb4⟩
       have h4 := Lib.hid (h3.out.keep hb4)
       have q0 := h4.out.q0
       have q1 := h4.out.q1
       have q2 := h4.out.q2
       have q3 := h4.out.q3
       clear hb4 h3)
    | (go_at_call 17; refine (fxsums_any rl AR (some ⟨gr, 0, none⟩) _ at_ Sm nR cR cr _ hrl'.out hnR'.out (by omega) hS ((h2'.out.below h4.out.bel).mono h4.out.bel.size) h4.out.raw).mono ?_; rintro e w5 ⟨rfl, hb5⟩
       have h5 := Lib.hid (h4.out.keep hb5)
       clear q0 q1 q2 q3
       have q0 := h5.out.q0
       have q1 := h5.out.q1
       have q2 := h5.out.q2
       have q3 := h5.out.q3
       clear hb5 h4)
    | (go_at_call 18; refine (fxpacks_any bl AB _ _ _ gb nB cB cb (w.heap.size + 1) _ hbl'.out hnB'.out (by omega) ((h1'.out.below h5.out.bel).mono (Nat.le_succ _)) h5.out.lt (hnB'.out ▸ h5.out.ob)).mono ?_; rintro e w6 ⟨rfl, hg6, ob6⟩
       have h6 := Lib.hid (h5.out.turnB hg6 (hnB'.out ▸ ob6))
       clear q0 q1 q2 q3
       have q0 := h6.out.q0
       have q1 := h6.out.q1
       have q2 := h6.out.q2
       have q3 := h6.out.q3
       clear hg6 ob6 h5)
    | (go_at_call 19; refine (fxreads_any rl AR (some ⟨gr, 0, none⟩) _ _ at_ nR cR cr _ hrl'.out hnR'.out (by omega) ((h2'.out.below h6.out.bel).mono h6.out.bel.size) h6.out.raw (by have := h6.out.or_.le.1; have := hnR'.out; omega) h6.out.or_.le.2).mono ?_; rintro e w7 ⟨rfl, hb7⟩
       have h7 := Lib.hid (h6.out.keep hb7)
       clear q0 q1 q2 q3
       have q0 := h7.out.q0
       have q1 := h7.out.q1
       have q2 := h7.out.q2
       have q3 := h7.out.q3
       clear hb7 h6)
    | (go_at_call 20; refine (fxgoes_any rl AR _ _ _ gr nR cR cr (w.heap.size + 1) _ hrl'.out hnR'.out hmR ((h2'.out.below h7.out.bel).mono (Nat.le_succ _)) h7.out.lt (hnR'.out ▸ h7.out.or_)).mono ?_; rintro e w8 ⟨rfl, hg8, or8⟩
       have h8 := Lib.hid (h7.out.turnR hg8 (hnR'.out ▸ or8))
       clear q0 q1 q2 q3
       have q0 := h8.out.q0
       have q1 := h8.out.q1
       have h8x := Lib.hid h8.out
       clear hg8 or8 h7)
    | (go_at_call 21; refine (left_any _ bl AB nB cB cb gb hnB'.out ((h1'.out.below h8x.out.bel).mono h8x.out.bel.size) h8x.out.ob.byt (by omega) (by have := h8x.out.ob.le.1; have := hnB'.out; omega)).mono ?_; rintro e w9 ⟨rfl, k9, rfl⟩; clear h8x)
    | (go_at_call 21; refine (left_any _ rl AR nR cR cr gr hnR'.out (((h2'.out.below h8.out.bel).mono h8.out.bel.size).drewN _) (h8.out.or_.drewN _).byt (by omega) (by have := h8.out.or_.le.1; have := hnR'.out; omega)).mono ?_; rintro e w9 ⟨rfl, k10, rfl⟩))
  go_ret
  exact ⟨rfl, below_drewN h8.out.bel _⟩
end Go.Proofs.Ytjofpjioaiamhaa

/- FrameExact: the document's Unpack. -/
import Derived.Test.YtjofpjioaiamhaaFxT
namespace Go.Proofs.Ytjofpjioaiamhaa
open Go.RowKit

set_option maxRecDepth 20000 in
set_option maxHeartbeats 4000000 in
theorem unpack2_any (l : List Nat) (at_ : Int) (A : Option Addr) (n c B : Nat) (w : World) (hl : ∀ b ∈ l, b < 256) (hn : l.length = n) (hnm : n ≤ 281474976710656) (hB : B ≤ w.heap.size) (h : Byt w B A l) :
    Calls Try.prog 32 #[.slice A n c, .int .i64 at_] w fun e w' => Unp w w' e (unpL l at_) := by
  have hl' := Lib.hid hl
  have hn' := Lib.hid hn
  have h' := Lib.hid h
  clear hl hn h
  by_cases h1 : at_ < 0
  · have e0 : unpL l at_ = (61, 0, []) := by simp [unpL, h1]
    rw [e0]
    clear e0
    go_enter Try.func32, Try.ntmps32
    go_wp2_with fail
    go_ret3
    exact Unp.err w w 61 (Below.refl _ _)
  · by_cases h2 : (n : Int) < at_
    · have e0 : unpL l at_ = (61, 0, []) := by simp [unpL, hn'.out, h2]
      rw [e0]
      clear e0
      go_enter Try.func32, Try.ntmps32
      go_wp2_with fail
      go_ret3
      exact Unp.err w w 61 (Below.refl _ _)
    · obtain ⟨k, rfl⟩ : ∃ k : Nat, at_ = k := ⟨at_.toNat, by omega⟩
      have e0 : unpL l (k : Int) = unpF (l.drop k) := by
        unfold unpL
        rw [if_neg (by rw [hn'.out]; omega)]
        rfl
      rw [e0]
      have hk : k ≤ n := by omega
      clear h1 h2 e0
      have hm' := Lib.hid (show (l.drop k).length = n - k by rw [List.length_drop, hn'.out])
      have hmb' := Lib.hid (show ∀ b ∈ l.drop k, b < 256 from fun b hb => hl'.out b (List.mem_of_mem_drop hb))
      have hg' : Hid (∀ j, (l.drop k)[j]?.getD 0 = l[k + j]?.getD 0) := Lib.hid fun j => by rw [List.getElem?_drop]
      generalize l.drop k = m at hm' hmb' hg' ⊢
      have hs1 : IntKind.i64.wrap ((n : Int) - k) = (n : Int) - k := IntWalk.i64_in _ (by omega)
      by_cases h10 : n - k < 10
      · have e0 : unpF m = (62, 0, []) := by unfold unpF; rw [if_pos (by rw [hm'.out]; exact h10)]
        rw [e0]
        clear e0
        have h10' : (n : Int) - k < 10 := by omega
        go_enter Try.func32, Try.ntmps32
        go_wp2_with fail
        go_ret3
        exact Unp.err w w 62 (Below.refl _ _)
      · obtain ⟨b, off, rfl, hbB, hcell⟩ := h'.out (by rw [hn'.out]; omega)
        have hc' := Lib.hid hcell
        have hdoc := Lib.hid (unpF_doc hmb'.out (by rw [hm'.out]; omega))
        have hN0 : Hid (∀ i, i = k + 1 → l[i]?.getD 0 + 256 * l[i + 1]?.getD 0 = getN m) := Lib.hid fun i hi => by subst hi; unfold getN; rw [hg'.out, hg'.out]
        have hNlt := getN_lt hmb'.out
        have hS0 : Hid (∀ i, i = k + 6 → l[i]?.getD 0 + 256 * l[i + 1]?.getD 0 + 65536 * l[i + 2]?.getD 0 + 16777216 * l[i + 3]?.getD 0 = getS m) := Lib.hid fun i hi => by subst hi; unfold getS; rw [hg'.out, hg'.out, hg'.out, hg'.out]
        obtain ⟨x0, hx0⟩ : ∃ x, Hid (m[0]?.getD 0 = x) := ⟨_, Lib.hid rfl⟩
        obtain ⟨x5, hx5⟩ : ∃ x, Hid (m[5]?.getD 0 = x) := ⟨_, Lib.hid rfl⟩
        obtain ⟨y, hy⟩ : ∃ y, Hid (∀ i, i = k + 3 → l[i]?.getD 0 + 256 * l[i + 1]?.getD 0 = y) := ⟨_, Lib.hid fun i hi => by subst hi; rfl⟩
        have hbad : Hid (badHead m ↔ (x0 ≠ 199 ∨ y ≠ 65535 - getN m ∨ 65526 < getN m ∨ x5 ≠ 1)) := Lib.hid (by
          have hq := hy.out _ rfl
          unfold badHead
          rw [hx0.out, hx5.out, hg'.out 3, hg'.out 4, ← hq])
        have hy2 : y ≤ 65535 := by
          have hq := hy.out _ rfl
          have := bytes_getD hl'.out (k + 3)
          have := bytes_getD hl'.out (k + 3 + 1)
          omega
        have q0 : Hid (∀ W, Below w.heap.size w W → W.cell? ⟨b, off + k, none⟩ = some (.int .u8 (x0 : Int))) := Lib.hid fun W hW => by
          have h3 : w.cell? ⟨b, off + k, none⟩ = some (.int .u8 ((l[k]?.getD 0 : Nat) : Int)) := hc'.out k (by rw [hn'.out]; omega)
          have h4 : l[k]?.getD 0 = x0 := by rw [← hx0.out, hg'.out 0]; rfl
          rw [h4] at h3
          exact (hW.cell (p := ⟨b, off + k, none⟩) (by show b < _; omega)).trans h3
        have q5 : Hid (∀ W, Below w.heap.size w W → W.cell? ⟨b, off + (k + 5), none⟩ = some (.int .u8 (x5 : Int))) := Lib.hid fun W hW => by
          have h3 : w.cell? ⟨b, off + (k + 5), none⟩ = some (.int .u8 ((l[k + 5]?.getD 0 : Nat) : Int)) := hc'.out (k + 5) (by rw [hn'.out]; omega)
          have h4 : l[k + 5]?.getD 0 = x5 := by rw [← hx5.out, hg'.out 5]
          rw [h4] at h3
          exact (hW.cell (p := ⟨b, off + (k + 5), none⟩) (by show b < _; omega)).trans h3
        have hby : Hid (∀ W, Below w.heap.size w W → Byt W B (some ⟨b, off, none⟩) l) := Lib.hid fun W hW => h'.out.below (hW.mono hB)
        have hS' := Lib.hid (show getS m = getS m from rfl)
        generalize hNN : getN m = N at *
        generalize getS m = S at *
        clear hcell hS' hx0 hx5
        have hNN' := Lib.hid hNN
        clear hNN
        have i1 : ((k : Int) + 1) = ((k + 1 : Nat) : Int) := by omega
        have i3 : ((k : Int) + 3) = ((k + 3 : Nat) : Int) := by omega
        have t1 := Lib.hid fun (W : World) (hW : Below w.heap.size w W) => two_any l (k + 1) N (some ⟨b, off, none⟩) n c B W hl'.out hn'.out hnm (by omega) (hby.out W hW) (hN0.out _ rfl)
        have t3 := Lib.hid fun (W : World) (hW : Below w.heap.size w W) => two_any l (k + 3) y (some ⟨b, off, none⟩) n c B W hl'.out hn'.out hnm (by omega) (hby.out W hW) (hy.out _ rfl)
        have i6 : ((k : Int) + 6) = ((k + 6 : Nat) : Int) := by omega
        have t6 := Lib.hid fun (W : World) (hW : Below w.heap.size w W) => four_any l (k + 6) S (some ⟨b, off, none⟩) n c B W hl'.out hn'.out hnm (by omega) (hby.out W hW) (hS0.out _ rfl)
        rw [← i6] at t6
        rw [← i1] at t1
        rw [← i3] at t3
        clear i1 i3 i6
        have h10' : ¬ ((n : Int) - k < 10) := by omega
        have j0 : (k : Int) < (n : Int) := by omega
        have j1 : (k : Int) + 5 < (n : Int) := by omega
        go_enter Try.func32, Try.ntmps32
        by_cases g0 : x0 = 199
        · have c0 : ((x0 : Int) != 199) = false := by simp; omega
          by_cases g1 : y = 65535 - N
          · have c1 : ((y : Int) != 65535 - (N : Int)) = false := by simp; omega
            by_cases g2 : 65526 < N
            · have c2 : decide (65526 < (N : Int)) = true := by simp; omega
              have e1 : unpF m = (63, 0, []) := hdoc.out.1 (hbad.out.2 (.inr (.inr (.inl g2))))
              rw [e1]
              clear e1
              go_wp2_with (first
                | (go_at_call 39; refine (t1.out _ (Below.refl _ _)).mono ?_; rintro e w1 ⟨rfl, kq, hw1⟩; have hb1 := Lib.hid (show Below w.heap.size w w1 from hw1 ▸ below_drewN (Below.refl _ _) kq); have p0 := q0.out _ hb1.out; clear hw1 t1)
                | (go_at_call 39; refine (t3.out _ hb1.out).mono ?_; rintro e w2 ⟨rfl, kr, hw2⟩; have hb2 := Lib.hid (show Below w.heap.size w w2 from hw2 ▸ below_drewN hb1.out kr); have p5 := q5.out _ hb2.out; clear hw2))
              go_ret3
              exact Unp.err w _ 63 hb2.out
            · have c2 : decide (65526 < (N : Int)) = false := by simp; omega
              by_cases g3 : x5 = 1
              · have c3 : ((x5 : Int) != 1) = false := by simp; omega
                have hok := Lib.hid (hdoc.out.2 (fun hh => by rcases hbad.out.1 hh with e | e | e | e; exact e g0; exact e g1; exact g2 e; exact e g3)).2
                by_cases g4 : n - k < 10 + N
                · have e1 : unpF m = (62, 0, []) := hok.out.1 (by rw [hm'.out]; exact g4)
                  rw [e1]
                  clear e1
                  have c4 : (n : Int) - k - 10 < N := by omega
                  go_wp2_with (first
                    | (go_at_call 39; refine (t1.out _ (Below.refl _ _)).mono ?_; rintro e w1 ⟨rfl, kq, hw1⟩; have hb1 := Lib.hid (show Below w.heap.size w w1 from hw1 ▸ below_drewN (Below.refl _ _) kq); have p0 := q0.out _ hb1.out; clear hw1 t1)
                    | (go_at_call 39; refine (t3.out _ hb1.out).mono ?_; rintro e w2 ⟨rfl, kr, hw2⟩; have hb2 := Lib.hid (show Below w.heap.size w w2 from hw2 ▸ below_drewN hb1.out kr); have p5 := q5.out _ hb2.out; clear hw2))
                  go_ret3
                  exact Unp.err w _ 62 hb2.out
                · have c4 : ¬ ((n : Int) - k - 10 < N) := by omega
                  have hok2 := Lib.hid (hok.out.2 (by rw [hm'.out]; omega))
                  have hlb : Hid (∀ j, j ≤ N → ((m.drop 10).take j).length = j) := Lib.hid fun j hj => by rw [List.length_take, List.length_drop, hm'.out]; omega
                  have hbb : Hid (∀ x ∈ (m.drop 10).take N, x < 256) := Lib.hid fun x hx => hmb'.out x (List.mem_of_mem_drop (List.mem_of_mem_take hx))
                  have hstp : Hid (∀ j, j < N → (m.drop 10).take (j + 1) = (m.drop 10).take j ++ [l[k + 10 + j]?.getD 0]) := Lib.hid fun j hj => by
                    rw [bytes_take (by rw [List.length_drop, hm'.out]; omega), List.getElem?_drop, hg'.out, Nat.add_assoc]
                  go_wp2_with (first
                    | (go_at_call 39; refine (t1.out _ (Below.refl _ _)).mono ?_; rintro e w1 ⟨rfl, kq, hw1⟩; have hb1 := Lib.hid (show Below w.heap.size w w1 from hw1 ▸ below_drewN (Below.refl _ _) kq); have p0 := q0.out _ hb1.out; clear hw1 t1)
                    | (go_at_call 39; refine (t3.out _ hb1.out).mono ?_; rintro e w2 ⟨rfl, kr, hw2⟩; have hb2 := Lib.hid (show Below w.heap.size w w2 from hw2 ▸ below_drewN hb1.out kr); have p5 := q5.out _ hb2.out; clear hw2))
                  go_loopw [8, 9] (fun s i wr => ∃ (j : Nat) (A : Option Addr) (c : Nat), j ≤ N ∧ i = .int .i64 j ∧ s = .slice A j c ∧ Hid (Own wr w.heap.size 5 1 A j c (u8s ((m.drop 10).take j))) ∧ Hid (Below w.heap.size w wr)) (fun _ i _ => N - (intOf i).toNat)
                  case atStart => exact ⟨0, none, 0, by omega, rfl, rfl, Lib.hid (Own.nil _ _ _ _), hb2⟩
                  case round =>
                    clear hb2
                    obtain ⟨j, A3, c3, hj, rfl, rfl, ho, hbel⟩ := hrel
                    by_cases hlt : j < N
                    · have qj : wr.cell? ⟨b, off + (k + 10 + j), none⟩ = some (.int .u8 ((l[k + 10 + j]?.getD 0 : Nat) : Int)) := (hbel.out.cell (p := ⟨b, off + (k + 10 + j), none⟩) (by show b < _; omega)).trans (hc'.out (k + 10 + j) (by rw [hn'.out]; omega))
                      have hst := Lib.hid (hstp.out j hlt)
                      generalize l[k + 10 + j]?.getD 0 = z at qj hst
                      have hown := ho.out
                      have j2 : (k : Int) + 10 + (j : Int) < (n : Int) := by omega
                      go_wp2_with (at_builtin; refine wpList_app1 elB _ #[_] rfl rfl _ _ rfl rfl hown rfl (by intro u hu; simp at hu; subst hu; rfl) (by unfold maxLen; omega) (by omega) hbel.out.size (j + 1) rfl _ rfl ?_; intro A' c' w' hown' _ hb')
                      go_roundw
                      case rel => exact ⟨j + 1, A', c', by omega, by go_num, rfl, Lib.hid (by rw [hst.out, ← u8s_snoc]; exact hown'), Lib.hid (hbel.out.trans hb')⟩
                      case measure => simp [intOf]; omega
                    · obtain rfl : N = j := by omega
                      have hcm0 := Crc.more_append (s := 0) (m := (m.drop 10).take N) (headL_bytes (n := N) (by omega))
                      obtain ⟨C, hC⟩ : ∃ C, Hid (∀ _ : Unit, Crc.more 0 (headL N ++ (m.drop 10).take N) = C) := ⟨_, Lib.hid fun _ => rfl⟩
                      rw [hC.out ()] at hcm0
                      have hcm := Lib.hid hcm0
                      clear hcm0 hlt hj
                      by_cases g5 : C = S
                      · have c5 : ((C : Int) != (S : Int)) = false := by simp; omega
                        have e1 := Lib.hid (hok2.out.2 (by rw [hC.out ()]; exact g5))
                        go_wp2_with (first
                          | (go_at_call 37; refine (head2_any N _ (by omega)).mono ?_; rintro e w4 ⟨⟨g, rfl, o4⟩, hb4⟩; have o4' := Lib.hid o4; have ho5 := Lib.hid (ho.out.below hb4 (fun k hk => (ho.out.lt k hk).2)); have hb5 := Lib.hid (hbel.out.trans (hb4.mono hbel.out.size)); clear o4 hb4)
                          | (go_at_call 28; refine (crc2_any (headL N) _ 6 6 _ _ (headL_bytes (by omega)) rfl (by omega) o4'.out.byt).mono ?_; rintro e w5 ⟨rfl, rfl⟩)
                          | (go_at_call 29; refine (more2_any _ ((m.drop 10).take N) _ N _ _ _ (Crc.more_lt _ _) hbb.out (hlb.out N (Nat.le_refl _)) (by omega) ho5.out.byt).mono ?_; rw [hcm.out]; rintro e w6 ⟨rfl, rfl⟩)
                          | (go_at_call 40; refine (t6.out _ hb5.out).mono ?_; rintro e w7 ⟨rfl, kz, rfl⟩))
                        go_ret3
                        rw [e1.out]
                        refine ⟨A3, c3, ?_, ?_, below_drewN hb5.out _⟩
                        · show _ = Ending.returned (.tuple #[.slice A3 ((m.drop 10).take N).length c3, .int .i64 ((10 + N : Nat) : Int), .int .i64 0])
                          rw [hlb.out N (Nat.le_refl _)]
                          simp
                        · show Own _ _ _ _ _ ((m.drop 10).take N).length _ _
                          rw [hlb.out N (Nat.le_refl _)]
                          exact ho5.out.drewN _
                      · have c5 : ((C : Int) != (S : Int)) = true := by simp; omega
                        have e1 := Lib.hid (hok2.out.1 (by rw [hC.out ()]; exact g5))
                        go_wp2_with (first
                          | (go_at_call 37; refine (head2_any N _ (by omega)).mono ?_; rintro e w4 ⟨⟨g, rfl, o4⟩, hb4⟩; have o4' := Lib.hid o4; have ho5 := Lib.hid (ho.out.below hb4 (fun k hk => (ho.out.lt k hk).2)); have hb5 := Lib.hid (hbel.out.trans (hb4.mono hbel.out.size)); clear o4 hb4)
                          | (go_at_call 28; refine (crc2_any (headL N) _ 6 6 _ _ (headL_bytes (by omega)) rfl (by omega) o4'.out.byt).mono ?_; rintro e w5 ⟨rfl, rfl⟩)
                          | (go_at_call 29; refine (more2_any _ ((m.drop 10).take N) _ N _ _ _ (Crc.more_lt _ _) hbb.out (hlb.out N (Nat.le_refl _)) (by omega) ho5.out.byt).mono ?_; rw [hcm.out]; rintro e w6 ⟨rfl, rfl⟩)
                          | (go_at_call 40; refine (t6.out _ hb5.out).mono ?_; rintro e w7 ⟨rfl, kz, rfl⟩))
                        go_ret3
                        rw [e1.out]
                        exact Unp.err w _ 64 (below_drewN hb5.out _)
              · have c3 : ((x5 : Int) != 1) = true := by simp; omega
                have e1 : unpF m = (63, 0, []) := hdoc.out.1 (hbad.out.2 (.inr (.inr (.inr g3))))
                rw [e1]
                clear e1
                go_wp2_with (first
                  | (go_at_call 39; refine (t1.out _ (Below.refl _ _)).mono ?_; rintro e w1 ⟨rfl, kq, hw1⟩; have hb1 := Lib.hid (show Below w.heap.size w w1 from hw1 ▸ below_drewN (Below.refl _ _) kq); have p0 := q0.out _ hb1.out; clear hw1 t1)
                  | (go_at_call 39; refine (t3.out _ hb1.out).mono ?_; rintro e w2 ⟨rfl, kr, hw2⟩; have hb2 := Lib.hid (show Below w.heap.size w w2 from hw2 ▸ below_drewN hb1.out kr); have p5 := q5.out _ hb2.out; clear hw2))
                go_ret3
                exact Unp.err w _ 63 hb2.out
          · have c1 : ((y : Int) != 65535 - (N : Int)) = true := by simp; omega
            have e1 : unpF m = (63, 0, []) := hdoc.out.1 (hbad.out.2 (.inr (.inl g1)))
            rw [e1]
            clear e1
            go_wp2_with (first
              | (go_at_call 39; refine (t1.out _ (Below.refl _ _)).mono ?_; rintro e w1 ⟨rfl, kq, hw1⟩; have hb1 := Lib.hid (show Below w.heap.size w w1 from hw1 ▸ below_drewN (Below.refl _ _) kq); have p0 := q0.out _ hb1.out; clear hw1 t1)
              | (go_at_call 39; refine (t3.out _ hb1.out).mono ?_; rintro e w2 ⟨rfl, kr, hw2⟩; have hb2 := Lib.hid (show Below w.heap.size w w2 from hw2 ▸ below_drewN hb1.out kr); have p5 := q5.out _ hb2.out; clear hw2))
            go_ret3
            exact Unp.err w _ 63 hb2.out
        · have c0 : ((x0 : Int) != 199) = true := by simp; omega
          have e1 : unpF m = (63, 0, []) := hdoc.out.1 (hbad.out.2 (.inl g0))
          rw [e1]
          clear e1
          go_wp2_with (first | (go_at_call 39; refine (t1.out _ (Below.refl _ _)).mono ?_; rintro e w1 ⟨rfl, kq, rfl⟩; have p0 := q0.out _ (below_drewN (Below.refl _ _) kq)))
          go_ret3
          exact Unp.err w _ 63 (below_drewN (Below.refl _ _) _)
end Go.Proofs.Ytjofpjioaiamhaa

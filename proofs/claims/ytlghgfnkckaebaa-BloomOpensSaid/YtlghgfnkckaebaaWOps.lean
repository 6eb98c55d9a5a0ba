/- BloomOpens' walk. -/
import Derived.Test.YtlghgfnkckaebaaWStr
import Derived.Test.YtlghgfnkckaebaaWROp
import Derived.Test.YtlghgfnkckaebaaGearN
import Derived.BigQuiet
import Derived.Deep.RegionHeld3
import Derived.Test.YtlghgfnkckaebaaWTk
import Derived.Laws.Bits64
namespace Go.Proofs.Ytlghgfnkckaebaa
open Go.RowKit
set_option linter.unusedSimpArgs false
set_option linter.unusedVariables false

theorem Flt.grown {w w' : World} {B g h c k : Nat} {A : Option Addr} {l : List Nat} (f : Flt w B g A c l h) (hg : w.grownBy w' (some k)) (hk : k < B) : Flt w' B g A c l h :=
  { f with blk := (hg.block g f.lt_ (by intro q; injection q with q; have := f.gB; omega)).trans f.blk, row := ⟨fun hp => by
      obtain ⟨a, cs, e, hB, ha⟩ := f.row.row hp
      exact ⟨a, cs, e, hB, (hg.block a (Array.getElem?_eq_some_iff.1 ha).1 (by intro q; injection q with q; omega)).trans ha⟩⟩ }
set_option maxRecDepth 20000 in
set_option maxHeartbeats 4000000 in
theorem bopens_any (w : World) (A : Option Addr) (l : List Nat) (n c : Nat) (hn : l.length = n) (hb : Byt w w.heap.size A l) (hs : n ≤ 140737488351232) (h256 : ∀ x ∈ l, x < 256) :
    Calls Try.prog 8 #[.slice A n c] w fun e w' => e = .returned (.bool true) ∧ Below w.heap.size w w' := by
  have hn' := Lib.hid hn
  have hb' := Lib.hid hb
  have h256' := Lib.hid h256
  clear hn hb h256
  obtain ⟨L, hL⟩ : ∃ L, strB l = L := ⟨_, rfl⟩
  have hnil : Hid (∀ (W : World) (A1 : Option Addr) (c1 : Nat), Own W w.heap.size 5 1 A1 n c1 (u8s l) → A1 = none → l = []) := Lib.hid fun W A1 c1 h e => by
    rcases Nat.eq_zero_or_pos n with h0 | h0
    · exact List.length_eq_zero_iff.1 (hn'.out.trans h0)
    · obtain ⟨g, hg⟩ := h.head h0
      rw [hg] at e
      cases e
  by_cases ho : okF l
  · have ho' := Lib.hid ho
    have hn0 : 0 < n ∧ n ≤ 131075 := by obtain ⟨q1, _, _, _, q5, q6⟩ := ho; have := hn'.out; omega
    have hfy : Hid (fBy (l[0]?.getD 0) (wordsQ l (l[1]?.getD 0 + 256 * l[2]?.getD 0)) = l) := Lib.hid (fBy_words ho h256'.out)
    obtain ⟨ws, hws⟩ : ∃ ws, wordsQ l (l[1]?.getD 0 + 256 * l[2]?.getD 0) = ws := ⟨_, rfl⟩
    obtain ⟨H, hH⟩ : ∃ H, l[0]?.getD 0 = H := ⟨_, rfl⟩
    rw [hws, hH] at hfy
    have hws' := Lib.hid hws
    have hH' := Lib.hid hH
    clear ho hws hH
    go_enter Try.func8, Try.ntmps8
    go_wp2_with (first
      | (at_builtin
         refine wpList_app elB _ rfl _ _ rfl rfl (Own.nil w w.heap.size _ _) rfl (m := n) (g := fun j => .int .u8 ((l[j]?.getD 0 : Nat) : Int)) (by rw [Nat.mul_one, ← hn'.out]; exact hb'.out) (fun _ _ => rfl) (by unfold maxLen; omega) (by omega) (Nat.le_refl _) n (by omega) (u8s l) (by have := u8s_app (l := []) (m := l) hn'.out.symm; simpa [u8s] using this) ?_
         intro A1 c1 w1 o1 at1 b1
         have o1' := Lib.hid o1
         have b1' := Lib.hid b1
         clear o1 at1 b1)
      | (go_at_call 20
         refine (fopen_any w1 A1 l n c1 hn'.out o1'.out.byt (hnil.out _ _ _ o1'.out) (by omega) h256'.out).mono ?_
         rintro e w2 ⟨⟨_, g, A3, c3, rfl, hf⟩ | ⟨hno, _⟩, b2⟩
         rotate_left
         · exact absurd ho'.out hno
         rw [hws'.out, hH'.out] at hf
         have f2 := Lib.hid hf
         have b2' := Lib.hid (b1'.out.trans (b2.mono b1'.out.size))
         have o2' := Lib.hid (o1'.out.below b2 fun k hk => (o1'.out.lt k hk).2)
         clear b2 hf)
      | (go_at_call 21
         refine (ropen_any w2 A l n c hn'.out (Rd.mono (hb'.out.below b2'.out) b2'.out.size) (by omega) h256'.out).mono ?_
         rintro e w3 ⟨⟨_, r, rfl⟩ | ⟨hno, _⟩, b3⟩
         rotate_left
         · exact absurd ho'.out hno
         have b3' := Lib.hid (b2'.out.trans (b3.mono b2'.out.size))
         have o3' := Lib.hid (o2'.out.below b3 fun k hk => (o2'.out.lt k hk).2)
         have f3 := Lib.hid (f2.out.below b3)
         have hcv := conv_bytes w3 l A1 c1 _ o3'.out.byt h256'.out
         have hcw := conv_bytes w3 l A c _ (hb'.out.below b3'.out) h256'.out
         rw [hn'.out, hL] at hcv hcw
         clear b3))
    obtain ⟨a, hA⟩ := o3'.out.head hn0.1
    subst hA
    have hlo : Hid (w.heap.size ≤ a ∧ a < w1.heap.size) := Lib.hid (o1'.out.lt a rfl)
    have hw1 : Hid (w.heap.size ≤ w1.heap.size) := Lib.hid b1'.out.size
    clear hcv hcw b2' o1' o2' f2 b1' hnil
    go_loopw [7] (fun iv wr => ∃ (i : Nat) (m : List Nat), i ≤ n ∧ iv = .int .i64 (i : Int) ∧ Hid (m.length = n) ∧ Hid (∀ x ∈ m, x < 256) ∧ Hid (Own wr w.heap.size 5 1 (some ⟨a, 0, none⟩) n c1 (u8s m)) ∧ Hid (Flt wr w1.heap.size g A3 c3 ws H) ∧ Hid (Below w.heap.size w wr)) (fun iv _ => n - (intOf iv).toNat)
    case atStart => exact ⟨0, l, by omega, rfl, hn', h256', o3', f3, b3'⟩
    case round =>
      clear o3' f3 b3'
      obtain ⟨i, m, hi, rfl, hml, hm256, ho1, hf, hbel⟩ := hrel
      by_cases hlt : i < n
      · obtain ⟨x, hx⟩ : ∃ x, Hid (m[i]? = some x) := ⟨_, Lib.hid (List.getElem?_eq_getElem (by rw [hml.out]; exact hlt))⟩
        have hx256 : x < 256 := hm256.out x (List.mem_of_getElem? hx.out)
        have co := ho1.out.cell i (by omega)
        have hu : (u8s m)[i]? = some (.int .u8 (x : Int)) := by simp [u8s, hx.out]
        rw [hu] at co
        have fo := ho1.out.frozen i
        obtain ⟨y, hy⟩ : ∃ y, x ^^^ 255 = y := ⟨_, rfl⟩
        have hyx : bits .xor .u8 (x : Int) 255 = (y : Int) := by rw [← hy]; exact u8_xor_nat x 255 hx256 (by decide)
        have hy256 : y < 256 := by rw [← hy]; exact Nat.xor_lt_two_pow (n := 8) hx256 (by decide)
        have hms : Hid (∀ z ∈ m.set i y, z < 256) := Lib.hid fun z hz => by
          rcases List.mem_or_eq_of_mem_set hz with h | h
          · exact hm256.out z h
          · rw [h]
            exact hy256
        clear hu hy
        go_wp2_with fail
        go_roundw
        case rel => exact ⟨i + 1, m.set i y, by omega, by go_num, Lib.hid (by rw [List.length_set]; exact hml.out), hms, Lib.hid (by have := ho1.out.set i (.int .u8 (y : Int)); rwa [show (u8s m).set i (.int .u8 (y : Int)) = u8s (m.set i y) by simp [u8s, List.map_set]] at this), Lib.hid (hf.out.grown (ho1.out.set_grown i _) hlo.out.2), Lib.hid (hbel.out.trans (grown_below (ho1.out.set_grown i _) hbel.out.size (fun j hj => by cases hj; exact hlo.out.1)))⟩
        case measure => simp [intOf]; omega
      · have hby := Lib.hid (fbytes_any (hf.out.below (below_drewN (Below.refl _ _) 1)))
        rw [hfy.out] at hby
        go_wp2_with fail
        have hd : Hid (Below w.heap.size w (World.drew wr)) := Lib.hid (below_drewN hbel.out 1)
        refine wp_region_held (S := fun W => Below w.heap.size w W) (by kernel_rfl) ?_
        change wpAnyH _ _ _ _ _ _ _ _ (World.drew _)
        refine tk (i := 0) (d := 45) (v := .pointer (some ⟨g, 0, none⟩)) rfl rfl (Or.inl ⟨by rfl, by intro W hW; clear hW; go_simp⟩) hd.out ?_
        simp only [List.setIfInBounds_toArray, List.set_cons_zero, List.set_cons_succ]
        refine tk (i := 1) (d := 46) (v := .bool true) rfl rfl (Or.inl ⟨by rfl, by intro W hW; clear hW; go_simp⟩) hd.out ?_
        simp only [List.setIfInBounds_toArray, List.set_cons_zero, List.set_cons_succ]
        refine tk (i := 2) (d := 47) (v := .bool true) rfl rfl (Or.inl ⟨by rfl, by intro W hW; clear hW; go_simp⟩) hd.out ?_
        simp only [List.setIfInBounds_toArray, List.set_cons_zero, List.set_cons_succ]
        refine tk (i := 3) (d := 48) (v := .int .i64 0) rfl rfl (Or.inl ⟨by rfl, by intro W hW; clear hW; go_simp⟩) hd.out ?_
        simp only [List.setIfInBounds_toArray, List.set_cons_zero, List.set_cons_succ]
        refine tk (i := 4) (d := 49) (v := .bool true) rfl rfl (Or.inl ⟨by rfl, by intro W hW; clear hW; go_simp⟩) hd.out ?_
        simp only [List.setIfInBounds_toArray, List.set_cons_zero, List.set_cons_succ]
        refine tk (i := 5) (d := 50) (v := .bool true) rfl rfl (Or.inl ⟨by rfl, by intro W hW; clear hW; go_simp⟩) hd.out ?_
        simp only [List.setIfInBounds_toArray, List.set_cons_zero, List.set_cons_succ]
        refine tk (i := 6) (d := 51) (v := .bool true) rfl rfl (Or.inl ⟨by rfl, by intro W hW; clear hW; go_simp⟩) hd.out ?_
        simp only [List.setIfInBounds_toArray, List.set_cons_zero, List.set_cons_succ]
        refine tk (i := 7) (d := 52) (v := .pointer (some ⟨g, 0, none⟩)) rfl rfl (Or.inl ⟨by rfl, by intro W hW; clear hW; go_simp⟩) hd.out ?_
        simp only [List.setIfInBounds_toArray, List.set_cons_zero, List.set_cons_succ]
        refine tk (i := 10) (d := 55) (v := .slice A n c) rfl rfl (Or.inl ⟨by rfl, by intro W hW; clear hW; go_simp⟩) hd.out ?_
        simp only [List.setIfInBounds_toArray, List.set_cons_zero, List.set_cons_succ]
        refine tk (i := 11) (d := 56) (v := .string L) rfl rfl (Or.inl ⟨by rfl, by intro W hW; have hcw := conv_bytes W l A c _ (hb'.out.below hW) h256'.out; rw [hn'.out, hL] at hcw; clear hW; go_simp⟩) hd.out ?_
        simp only [List.setIfInBounds_toArray, List.set_cons_zero, List.set_cons_succ]
        refine wpAnyH_ready (rs := [8]) (by kernel_rfl) (by simp) ?_
        refine AllReadyH.cons rfl (fun K hK => ?_) AllReadyH.nil
        go_simp
        refine hby.out.mono ?_
        rintro e w5 ⟨⟨A5, c5, rfl, o5⟩, b5⟩
        have b5' := Lib.hid ((below_drewN hbel.out 1).trans (b5.mono hbel.out.size))
        have hcv := conv_bytes w5 l A5 c5 _ o5.byt h256'.out
        rw [hL] at hcv
        clear o5 b5
        refine hK.out _ _ b5'.out (fun _ => ?_)
        clear hK K
        refine wpAnyH_ready (rs := [9]) (by kernel_rfl) (by simp) ?_
        refine AllReadyH.cons rfl (fun K hK => ?_) AllReadyH.nil
        go_simp
        refine hK.out _ _ b5'.out (fun _ => ?_)
        clear hK K
        refine tk (i := 12) (d := 57) (v := .bool true) rfl rfl (Or.inl ⟨by rfl, by intro W hW; clear hW; go_simp⟩) b5'.out ?_
        simp only [List.setIfInBounds_toArray, List.set_cons_zero, List.set_cons_succ]
        refine tk (i := 13) (d := 58) (v := .bool true) rfl rfl (Or.inl ⟨by rfl, by intro W hW; clear hW; go_simp⟩) b5'.out ?_
        simp only [List.setIfInBounds_toArray, List.set_cons_zero, List.set_cons_succ]
        refine tk (i := 14) (d := 2) (v := .bool true) rfl rfl (Or.inl ⟨by rfl, by intro W hW; clear hW; go_simp⟩) b5'.out ?_
        simp only [List.setIfInBounds_toArray, List.set_cons_zero, List.set_cons_succ]
        refine wpAnyH_done (by kernel_rfl) ?_ _
        go_wp2_with fail
        go_ret
        exact ⟨rfl, b5'.out⟩
  · have ho' := Lib.hid ho
    clear ho
    go_enter Try.func8, Try.ntmps8
    go_wp2_with (first
      | (at_builtin
         refine wpList_app elB _ rfl _ _ rfl rfl (Own.nil w w.heap.size _ _) rfl (m := n) (g := fun j => .int .u8 ((l[j]?.getD 0 : Nat) : Int)) (by rw [Nat.mul_one, ← hn'.out]; exact hb'.out) (fun _ _ => rfl) (by unfold maxLen; omega) (by omega) (Nat.le_refl _) n (by omega) (u8s l) (by have := u8s_app (l := []) (m := l) hn'.out.symm; simpa [u8s] using this) ?_
         intro A1 c1 w1 o1 at1 b1
         have o1' := Lib.hid o1
         have b1' := Lib.hid b1
         clear o1 at1 b1)
      | (go_at_call 20
         refine (fopen_any w1 A1 l n c1 hn'.out o1'.out.byt (hnil.out _ _ _ o1'.out) (by omega) h256'.out).mono ?_
         rintro e w2 ⟨⟨hy, _⟩ | ⟨_, rfl⟩, b2⟩
         · exact absurd hy ho'.out
         have b2' := Lib.hid (b1'.out.trans (b2.mono b1'.out.size))
         have o2' := Lib.hid (o1'.out.below b2 fun k hk => (o1'.out.lt k hk).2)
         clear b2)
      | (go_at_call 21
         refine (ropen_any w2 A l n c hn'.out (Rd.mono (hb'.out.below b2'.out) b2'.out.size) (by omega) h256'.out).mono ?_
         rintro e w3 ⟨⟨hy, _⟩ | ⟨_, rfl⟩, b3⟩
         · exact absurd hy ho'.out
         have b3' := Lib.hid (b2'.out.trans (b3.mono b2'.out.size))
         have o3' := Lib.hid (o2'.out.below b3 fun k hk => (o2'.out.lt k hk).2)
         have hcv := conv_bytes w3 l A1 c1 _ o3'.out.byt h256'.out
         have hcw := conv_bytes w3 l A c _ (hb'.out.below b3'.out) h256'.out
         rw [hn'.out, hL] at hcv hcw
         clear b3))
    go_ret
    exact ⟨rfl, b3'.out⟩
end Go.Proofs.Ytlghgfnkckaebaa

/- SameSessions of two lists that tell the same. (Printed by tools/genpq3.py.) -/
import Derived.Test.YtgjokkjmljdmbaaPqT
namespace Go.Proofs.Ytgjokkjmljdmbaa
open Go.RowKit Go.Maps
set_option linter.unusedSimpArgs false
set_option linter.unusedVariables false

/-- Nothing but draws. -/
def DrS (w W : World) : Prop := ∃ m, W = w.drewN m
theorem DrS.refl (w : World) : DrS w w := ⟨0, rfl⟩
theorem rowsE_get : ∀ {l : List SE} {i j : Nat} {e : SE}, l[i]? = some e → j < 3 → (rowsE l)[i * 3 + j]? = (encE e)[j]?
  | [], i, j, e, h, _ => by simp at h
  | x :: l, 0, j, e, h, hj => by
    simp at h
    subst h
    simp only [rowsE, List.flatMap_cons, Nat.zero_mul, Nat.zero_add]
    rw [List.getElem?_append_left (by simp [encE]; omega)]
  | x :: l, i + 1, j, e, h, hj => by
    have ih := rowsE_get (l := l) (i := i) (j := j) (e := e) (by simpa using h) hj
    simp only [rowsE, List.flatMap_cons] at ih ⊢
    rw [List.getElem?_append_right (by simp [encE]; omega), show (i + 1) * 3 + j - (encE x).length = i * 3 + j by simp [encE]; omega]
    exact ih
theorem rowsE_length (l : List SE) : (rowsE l).length = l.length * 3 := by
  induction l with
  | nil => rfl
  | cons x l ih => simp only [rowsE, List.flatMap_cons, List.length_append, List.length_cons] at ih ⊢; rw [ih]; simp [encE]; omega
/-- An element of a list of sessions, read. -/
theorem SesL.at_ {w : World} {B c i : Nat} {A : Option Addr} {l : List SE} {e : SE} (h : SesL w B A c l) (hi : l[i]? = some e) :
    ∃ b off, A = some ⟨b, off, none⟩ ∧ w.cell? ⟨b, off + i * 3, none⟩ = some (.int .i64 (e.num : Int)) ∧ w.cell? ⟨b, off + i * 3 + 1, none⟩ = some (.int .i64 (e.busy : Int)) ∧ w.cell? ⟨b, off + i * 3 + 2, none⟩ = some (.slice e.A e.ks.length e.c) := by
  have hil := (List.getElem?_eq_some_iff.1 hi).1
  obtain ⟨b, off, rfl, hb, hc⟩ := h.row.rd (by omega)
  have key : ∀ j, j < 3 → w.cell? ⟨b, off + i * 3 + j, none⟩ = some ((encE e)[j]?.getD undef) := fun j hj => by
    rw [Nat.add_assoc, hc (i * 3 + j) (by omega)]
    show some ((rowsE l)[i * 3 + j]?.getD undef) = _
    rw [rowsE_get hi hj]
  exact ⟨b, off, rfl, key 0 (by omega), key 1 (by omega), key 2 (by omega)⟩
set_option maxRecDepth 100000 in
set_option maxHeartbeats 2000000 in
theorem sameSessions_any (w : World) (B1 B2 c1 c2 n : Nat) (A1 A2 : Option Addr) (l1 l2 : List SE) (h1 : SesL w B1 A1 c1 l1) (h2 : SesL w B2 A2 c2 l2) (he : l1.map seOf = l2.map seOf) (hn1 : l1.length = n) (hn2 : l2.length = n) (hn : n ≤ 16) :
    Calls Try.prog 43 #[.slice A1 n c1, .slice A2 n c2] w fun e w' => e = .returned (.bool true) ∧ DrS w w' := by
  have h1' := Lib.hid h1
  have h2' := Lib.hid h2
  have he' := Lib.hid he
  have hn1' := Lib.hid hn1
  have hn2' := Lib.hid hn2
  have hi32 : Hid ((Try.prog.info? 29).map (·.size) = some 32) := Lib.hid (by kernel_rfl)
  clear h1 h2 he hn1 hn2
  go_enter Try.func43, Try.ntmps43
  go_wp2_with fail
  go_loopw [5] (fun iv wr => ∃ i m : Nat, i ≤ n ∧ iv = .int .i64 (i : Int) ∧ wr = w.drewN m) (fun iv _ => n - (intOf iv).toNat)
  case atStart => exact ⟨0, 0, Nat.zero_le _, rfl, rfl⟩
  case round =>
    obtain ⟨i, m, hi, rfl, rfl⟩ := hrel
    by_cases hlt : i < n
    · obtain ⟨e1, he1⟩ : ∃ e, l1[i]? = some e := ⟨_, List.getElem?_eq_getElem (by rw [hn1'.out]; exact hlt)⟩
      obtain ⟨e2, he2⟩ : ∃ e, l2[i]? = some e := ⟨_, List.getElem?_eq_getElem (by rw [hn2'.out]; exact hlt)⟩
      have hse : seOf e1 = seOf e2 := by
        have := congrArg (fun l => l[i]?) he'.out
        simpa [he1, he2] using this
      obtain ⟨b1, f1, rfl, x0, x1, x2⟩ := h1'.out.at_ he1
      obtain ⟨b2, f2, rfl, y0, y1, y2⟩ := h2'.out.at_ he2
      have ho1 := Lib.hid (h1'.out.each i e1 he1)
      have ho2 := Lib.hid (h2'.out.each i e2 he2)
      have hr1 := Lib.hid (h1'.out.rise i e1 he1)
      clear he1 he2
      obtain ⟨nu, bz, ks, A3, c3⟩ := e1
      obtain ⟨nu', bz', ks', A4, c4⟩ := e2
      simp only [seOf, Prod.mk.injEq] at hse
      obtain ⟨rfl, rfl, rfl⟩ := hse
      simp only at x0 x1 x2 y0 y1 y2 ho1 ho2 hr1
      obtain ⟨N, hN⟩ : ∃ N, ks.length = N := ⟨_, rfl⟩
      rw [hN] at x2 y2 ho1 ho2
      have hN' := Lib.hid hN
      have hNb : N ≤ 9223372036854775807 := by have := ho1.out.le; unfold maxLen at this; omega
      have ha0 : Hid (∀ W, DrS w W → W.cell? ⟨b1, f1 + i * 3, none⟩ = some (.int .i64 (nu : Int))) := Lib.hid fun W hW => by obtain ⟨m, rfl⟩ := hW; exact x0
      have ha1 : Hid (∀ W, DrS w W → W.cell? ⟨b1, f1 + i * 3 + 1, none⟩ = some (.int .i64 (bz : Int))) := Lib.hid fun W hW => by obtain ⟨m, rfl⟩ := hW; exact x1
      have ha2 : Hid (∀ W, DrS w W → W.cell? ⟨b1, f1 + i * 3 + 2, none⟩ = some (.slice A3 N c3)) := Lib.hid fun W hW => by obtain ⟨m, rfl⟩ := hW; exact x2
      have hb0 : Hid (∀ W, DrS w W → W.cell? ⟨b2, f2 + i * 3, none⟩ = some (.int .i64 (nu : Int))) := Lib.hid fun W hW => by obtain ⟨m, rfl⟩ := hW; exact y0
      have hb1 : Hid (∀ W, DrS w W → W.cell? ⟨b2, f2 + i * 3 + 1, none⟩ = some (.int .i64 (bz : Int))) := Lib.hid fun W hW => by obtain ⟨m, rfl⟩ := hW; exact y1
      have hb2 : Hid (∀ W, DrS w W → W.cell? ⟨b2, f2 + i * 3 + 2, none⟩ = some (.slice A4 N c4)) := Lib.hid fun W hW => by obtain ⟨m, rfl⟩ := hW; exact y2
      have hd : Hid (DrS w (w.drewN m).drew) := Lib.hid ⟨m + 1, rfl⟩
      clear x0 x1 x2 y0 y1 y2 hN
      go_wp2_with fail
      refine wp_region_held (S := DrS w) (by kernel_rfl) ?_
      change wpAnyH _ _ _ _ _ _ _ _ (World.drew _)
      refine tk (i := 0) (d := 18) (v := (.slice (some ⟨b1, f1, none⟩) n c1)) rfl rfl (Or.inl ⟨by rfl, by intro W hW; clear hW; go_simp⟩) hd.out ?_
      simp only [List.setIfInBounds_toArray, List.set_cons_zero, List.set_cons_succ]
      refine tk (i := 1) (d := 19) (v := (.int .i64 (i : Int))) rfl rfl (Or.inl ⟨by rfl, by intro W hW; clear hW; go_simp⟩) hd.out ?_
      simp only [List.setIfInBounds_toArray, List.set_cons_zero, List.set_cons_succ]
      refine tk (i := 2) (d := 20) (v := (.pointer (some ⟨b1, f1 + i * 3, none⟩))) rfl rfl (Or.inl ⟨by rfl, by intro W hW; clear hW; go_simp⟩) hd.out ?_
      simp only [List.setIfInBounds_toArray, List.set_cons_zero, List.set_cons_succ]
      refine tk (i := 3) (d := 21) (v := (.pointer (some ⟨b1, f1 + i * 3, none⟩))) rfl rfl (Or.inl ⟨by rfl, by intro W hW; clear hW; go_simp⟩) hd.out ?_
      simp only [List.setIfInBounds_toArray, List.set_cons_zero, List.set_cons_succ]
      refine tk (i := 4) (d := 22) (v := (.int .i64 (nu : Int))) rfl rfl (Or.inl ⟨by rfl, by intro W hW; have cc := ha0.out W hW; clear hW; go_simp⟩) hd.out ?_
      simp only [List.setIfInBounds_toArray, List.set_cons_zero, List.set_cons_succ]
      refine tk (i := 5) (d := 23) (v := (.slice (some ⟨b2, f2, none⟩) n c2)) rfl rfl (Or.inl ⟨by rfl, by intro W hW; clear hW; go_simp⟩) hd.out ?_
      simp only [List.setIfInBounds_toArray, List.set_cons_zero, List.set_cons_succ]
      refine tk (i := 6) (d := 24) (v := (.int .i64 (i : Int))) rfl rfl (Or.inl ⟨by rfl, by intro W hW; clear hW; go_simp⟩) hd.out ?_
      simp only [List.setIfInBounds_toArray, List.set_cons_zero, List.set_cons_succ]
      refine tk (i := 7) (d := 25) (v := (.pointer (some ⟨b2, f2 + i * 3, none⟩))) rfl rfl (Or.inl ⟨by rfl, by intro W hW; clear hW; go_simp⟩) hd.out ?_
      simp only [List.setIfInBounds_toArray, List.set_cons_zero, List.set_cons_succ]
      refine tk (i := 8) (d := 26) (v := (.pointer (some ⟨b2, f2 + i * 3, none⟩))) rfl rfl (Or.inl ⟨by rfl, by intro W hW; clear hW; go_simp⟩) hd.out ?_
      simp only [List.setIfInBounds_toArray, List.set_cons_zero, List.set_cons_succ]
      refine tk (i := 9) (d := 27) (v := (.int .i64 (nu : Int))) rfl rfl (Or.inl ⟨by rfl, by intro W hW; have cc := hb0.out W hW; clear hW; go_simp⟩) hd.out ?_
      simp only [List.setIfInBounds_toArray, List.set_cons_zero, List.set_cons_succ]
      refine tk (i := 10) (d := 28) (v := (.bool false)) rfl rfl (Or.inl ⟨by rfl, by intro W hW; clear hW; go_simp⟩) hd.out ?_
      simp only [List.setIfInBounds_toArray, List.set_cons_zero, List.set_cons_succ]
      refine tk (i := 11) (d := 29) (v := (.bool false)) rfl rfl (Or.inl ⟨by rfl, by intro W hW; clear hW; go_simp⟩) hd.out ?_
      simp only [List.setIfInBounds_toArray, List.set_cons_zero, List.set_cons_succ]
      refine tk (i := 12) (d := 30) (v := (.slice (some ⟨b1, f1, none⟩) n c1)) rfl rfl (Or.inl ⟨by rfl, by intro W hW; clear hW; go_simp⟩) hd.out ?_
      simp only [List.setIfInBounds_toArray, List.set_cons_zero, List.set_cons_succ]
      refine tk (i := 13) (d := 31) (v := (.int .i64 (i : Int))) rfl rfl (Or.inl ⟨by rfl, by intro W hW; clear hW; go_simp⟩) hd.out ?_
      simp only [List.setIfInBounds_toArray, List.set_cons_zero, List.set_cons_succ]
      refine tk (i := 14) (d := 32) (v := (.pointer (some ⟨b1, f1 + i * 3, none⟩))) rfl rfl (Or.inl ⟨by rfl, by intro W hW; clear hW; go_simp⟩) hd.out ?_
      simp only [List.setIfInBounds_toArray, List.set_cons_zero, List.set_cons_succ]
      refine tk (i := 15) (d := 33) (v := (.pointer (some ⟨b1, f1 + i * 3 + 1, none⟩))) rfl rfl (Or.inl ⟨by rfl, by intro W hW; clear hW; go_simp⟩) hd.out ?_
      simp only [List.setIfInBounds_toArray, List.set_cons_zero, List.set_cons_succ]
      refine tk (i := 16) (d := 34) (v := (.int .i64 (bz : Int))) rfl rfl (Or.inl ⟨by rfl, by intro W hW; have cc := ha1.out W hW; clear hW; go_simp⟩) hd.out ?_
      simp only [List.setIfInBounds_toArray, List.set_cons_zero, List.set_cons_succ]
      refine tk (i := 17) (d := 35) (v := (.slice (some ⟨b2, f2, none⟩) n c2)) rfl rfl (Or.inl ⟨by rfl, by intro W hW; clear hW; go_simp⟩) hd.out ?_
      simp only [List.setIfInBounds_toArray, List.set_cons_zero, List.set_cons_succ]
      refine tk (i := 18) (d := 36) (v := (.int .i64 (i : Int))) rfl rfl (Or.inl ⟨by rfl, by intro W hW; clear hW; go_simp⟩) hd.out ?_
      simp only [List.setIfInBounds_toArray, List.set_cons_zero, List.set_cons_succ]
      refine tk (i := 19) (d := 37) (v := (.pointer (some ⟨b2, f2 + i * 3, none⟩))) rfl rfl (Or.inl ⟨by rfl, by intro W hW; clear hW; go_simp⟩) hd.out ?_
      simp only [List.setIfInBounds_toArray, List.set_cons_zero, List.set_cons_succ]
      refine tk (i := 20) (d := 38) (v := (.pointer (some ⟨b2, f2 + i * 3 + 1, none⟩))) rfl rfl (Or.inl ⟨by rfl, by intro W hW; clear hW; go_simp⟩) hd.out ?_
      simp only [List.setIfInBounds_toArray, List.set_cons_zero, List.set_cons_succ]
      refine tk (i := 21) (d := 39) (v := (.int .i64 (bz : Int))) rfl rfl (Or.inl ⟨by rfl, by intro W hW; have cc := hb1.out W hW; clear hW; go_simp⟩) hd.out ?_
      simp only [List.setIfInBounds_toArray, List.set_cons_zero, List.set_cons_succ]
      refine tk (i := 22) (d := 40) (v := (.bool false)) rfl rfl (Or.inl ⟨by rfl, by intro W hW; clear hW; go_simp⟩) hd.out ?_
      simp only [List.setIfInBounds_toArray, List.set_cons_zero, List.set_cons_succ]
      refine tk (i := 23) (d := 41) (v := (.bool false)) rfl rfl (Or.inl ⟨by rfl, by intro W hW; clear hW; go_simp⟩) hd.out ?_
      simp only [List.setIfInBounds_toArray, List.set_cons_zero, List.set_cons_succ]
      refine tk (i := 24) (d := 42) (v := (.bool false)) rfl rfl (Or.inl ⟨by rfl, by intro W hW; clear hW; go_simp⟩) hd.out ?_
      simp only [List.setIfInBounds_toArray, List.set_cons_zero, List.set_cons_succ]
      refine tk (i := 25) (d := 43) (v := (.slice (some ⟨b1, f1, none⟩) n c1)) rfl rfl (Or.inl ⟨by rfl, by intro W hW; clear hW; go_simp⟩) hd.out ?_
      simp only [List.setIfInBounds_toArray, List.set_cons_zero, List.set_cons_succ]
      refine tk (i := 26) (d := 44) (v := (.int .i64 (i : Int))) rfl rfl (Or.inl ⟨by rfl, by intro W hW; clear hW; go_simp⟩) hd.out ?_
      simp only [List.setIfInBounds_toArray, List.set_cons_zero, List.set_cons_succ]
      refine tk (i := 27) (d := 45) (v := (.pointer (some ⟨b1, f1 + i * 3, none⟩))) rfl rfl (Or.inl ⟨by rfl, by intro W hW; clear hW; go_simp⟩) hd.out ?_
      simp only [List.setIfInBounds_toArray, List.set_cons_zero, List.set_cons_succ]
      refine tk (i := 28) (d := 46) (v := (.pointer (some ⟨b1, f1 + i * 3 + 2, none⟩))) rfl rfl (Or.inl ⟨by rfl, by intro W hW; clear hW; go_simp⟩) hd.out ?_
      simp only [List.setIfInBounds_toArray, List.set_cons_zero, List.set_cons_succ]
      refine tk (i := 29) (d := 47) (v := (.slice A3 N c3)) rfl rfl (Or.inl ⟨by rfl, by intro W hW; have cc := ha2.out W hW; clear hW; go_simp⟩) hd.out ?_
      simp only [List.setIfInBounds_toArray, List.set_cons_zero, List.set_cons_succ]
      refine tk (i := 30) (d := 48) (v := (.int .i64 (N : Int))) rfl rfl (Or.inl ⟨by rfl, by intro W hW; clear hW; go_simp⟩) hd.out ?_
      simp only [List.setIfInBounds_toArray, List.set_cons_zero, List.set_cons_succ]
      refine tk (i := 31) (d := 49) (v := (.slice (some ⟨b2, f2, none⟩) n c2)) rfl rfl (Or.inl ⟨by rfl, by intro W hW; clear hW; go_simp⟩) hd.out ?_
      simp only [List.setIfInBounds_toArray, List.set_cons_zero, List.set_cons_succ]
      refine tk (i := 32) (d := 50) (v := (.int .i64 (i : Int))) rfl rfl (Or.inl ⟨by rfl, by intro W hW; clear hW; go_simp⟩) hd.out ?_
      simp only [List.setIfInBounds_toArray, List.set_cons_zero, List.set_cons_succ]
      refine tk (i := 33) (d := 51) (v := (.pointer (some ⟨b2, f2 + i * 3, none⟩))) rfl rfl (Or.inl ⟨by rfl, by intro W hW; clear hW; go_simp⟩) hd.out ?_
      simp only [List.setIfInBounds_toArray, List.set_cons_zero, List.set_cons_succ]
      refine tk (i := 34) (d := 52) (v := (.pointer (some ⟨b2, f2 + i * 3 + 2, none⟩))) rfl rfl (Or.inl ⟨by rfl, by intro W hW; clear hW; go_simp⟩) hd.out ?_
      simp only [List.setIfInBounds_toArray, List.set_cons_zero, List.set_cons_succ]
      refine tk (i := 35) (d := 53) (v := (.slice A4 N c4)) rfl rfl (Or.inl ⟨by rfl, by intro W hW; have cc := hb2.out W hW; clear hW; go_simp⟩) hd.out ?_
      simp only [List.setIfInBounds_toArray, List.set_cons_zero, List.set_cons_succ]
      refine tk (i := 36) (d := 54) (v := (.int .i64 (N : Int))) rfl rfl (Or.inl ⟨by rfl, by intro W hW; clear hW; go_simp⟩) hd.out ?_
      simp only [List.setIfInBounds_toArray, List.set_cons_zero, List.set_cons_succ]
      refine tk (i := 37) (d := 55) (v := (.bool false)) rfl rfl (Or.inl ⟨by rfl, by intro W hW; clear hW; go_simp⟩) hd.out ?_
      simp only [List.setIfInBounds_toArray, List.set_cons_zero, List.set_cons_succ]
      refine tk (i := 38) (d := 56) (v := (.bool false)) rfl rfl (Or.inl ⟨by rfl, by intro W hW; clear hW; go_simp⟩) hd.out ?_
      simp only [List.setIfInBounds_toArray, List.set_cons_zero, List.set_cons_succ]
      refine wpAnyH_done (by kernel_rfl) ?_ _
      clear hd
      go_wp2_with fail
      go_loopw [6] (fun kv wr => ∃ k m : Nat, k ≤ N ∧ kv = .int .i64 (k : Int) ∧ wr = w.drewN m) (fun kv _ => N - (intOf kv).toNat)
      case atStart => exact ⟨0, m + 1, Nat.zero_le _, rfl, rfl⟩
      case round =>
        obtain ⟨k, m, hk, rfl, rfl⟩ := hrel
        have cc := ha2.out (w.drewN m) ⟨m, rfl⟩
        by_cases hlk : k < N
        · obtain ⟨x, hx⟩ : ∃ x, ks[k]? = some x := ⟨_, List.getElem?_eq_getElem (by rw [hN'.out]; exact hlk)⟩
          have hxk : IsK x := hr1.out.ok x (List.mem_of_getElem? hx)
          obtain ⟨b3, f3, rfl, _, hg3⟩ := ownK_at ho1.out (fun z hz => (hr1.out.ok z hz).1) hx
          obtain ⟨b4, f4, rfl, _, hg4⟩ := ownK_at ho2.out (fun z hz => (hr1.out.ok z hz).1) hx
          have hr3 : Hid (∀ W, DrS w W → W.rangeAt b3 (f3 + k * 32) (u8s x)) := Lib.hid fun W hW => by obtain ⟨m, rfl⟩ := hW; exact hg3
          have hr4 : Hid (∀ W, DrS w W → W.rangeAt b4 (f4 + k * 32) (u8s x)) := Lib.hid fun W hW => by obtain ⟨m, rfl⟩ := hW; exact hg4
          have hx32 : Hid ((u8s x).length = 32) := Lib.hid (by simp [u8s, hxk.1])
          have hne : Hid (∀ W, (binOp .neq 29 (.agg (u8s x).toArray) (.agg (u8s x).toArray)).run Try.prog W = .ok (.bool false) W) := Lib.hid fun W => by
            have := neK hxk.1 hxk.1 W
            simpa using this
          have hd : Hid (DrS w (w.drewN m).drew) := Lib.hid ⟨m + 1, rfl⟩
          clear hx hxk hg3 hg4
          go_wp2_with fail
          refine wp_region_held (S := DrS w) (by kernel_rfl) ?_
          change wpAnyH _ _ _ _ _ _ _ _ (World.drew _)
          refine tk (i := 0) (d := 67) (v := (.slice (some ⟨b1, f1, none⟩) n c1)) rfl rfl (Or.inl ⟨by rfl, by intro W hW; clear hW; go_simp⟩) hd.out ?_
          simp only [List.setIfInBounds_toArray, List.set_cons_zero, List.set_cons_succ]
          refine tk (i := 1) (d := 68) (v := (.int .i64 (i : Int))) rfl rfl (Or.inl ⟨by rfl, by intro W hW; clear hW; go_simp⟩) hd.out ?_
          simp only [List.setIfInBounds_toArray, List.set_cons_zero, List.set_cons_succ]
          refine tk (i := 2) (d := 69) (v := (.pointer (some ⟨b1, f1 + i * 3, none⟩))) rfl rfl (Or.inl ⟨by rfl, by intro W hW; clear hW; go_simp⟩) hd.out ?_
          simp only [List.setIfInBounds_toArray, List.set_cons_zero, List.set_cons_succ]
          refine tk (i := 3) (d := 70) (v := (.pointer (some ⟨b1, f1 + i * 3 + 2, none⟩))) rfl rfl (Or.inl ⟨by rfl, by intro W hW; clear hW; go_simp⟩) hd.out ?_
          simp only [List.setIfInBounds_toArray, List.set_cons_zero, List.set_cons_succ]
          refine tk (i := 4) (d := 71) (v := (.slice (some ⟨b3, f3, none⟩) N c3)) rfl rfl (Or.inl ⟨by rfl, by intro W hW; have cc := ha2.out W hW; clear hW; go_simp⟩) hd.out ?_
          simp only [List.setIfInBounds_toArray, List.set_cons_zero, List.set_cons_succ]
          refine tk (i := 5) (d := 72) (v := (.int .i64 (k : Int))) rfl rfl (Or.inl ⟨by rfl, by intro W hW; clear hW; go_simp⟩) hd.out ?_
          simp only [List.setIfInBounds_toArray, List.set_cons_zero, List.set_cons_succ]
          refine tk (i := 6) (d := 73) (v := (.pointer (some ⟨b3, f3 + k * 32, none⟩))) rfl rfl (Or.inl ⟨by rfl, by intro W hW; clear hW; go_simp⟩) hd.out ?_
          simp only [List.setIfInBounds_toArray, List.set_cons_zero, List.set_cons_succ]
          refine tk (i := 7) (d := 74) (v := (.agg (u8s x).toArray)) rfl rfl (yieldsIf_load_mid (by rfl) 29 _ rfl b3 (f3 + k * 32) rfl (u8s x) _ (fun W hW => hr3.out W hW) Try.underlying29 rfl (by rw [hx32.out]; exact hi32.out)) hd.out ?_
          simp only [List.setIfInBounds_toArray, List.set_cons_zero, List.set_cons_succ]
          refine tk (i := 8) (d := 75) (v := (.slice (some ⟨b2, f2, none⟩) n c2)) rfl rfl (Or.inl ⟨by rfl, by intro W hW; clear hW; go_simp⟩) hd.out ?_
          simp only [List.setIfInBounds_toArray, List.set_cons_zero, List.set_cons_succ]
          refine tk (i := 9) (d := 76) (v := (.int .i64 (i : Int))) rfl rfl (Or.inl ⟨by rfl, by intro W hW; clear hW; go_simp⟩) hd.out ?_
          simp only [List.setIfInBounds_toArray, List.set_cons_zero, List.set_cons_succ]
          refine tk (i := 10) (d := 77) (v := (.pointer (some ⟨b2, f2 + i * 3, none⟩))) rfl rfl (Or.inl ⟨by rfl, by intro W hW; clear hW; go_simp⟩) hd.out ?_
          simp only [List.setIfInBounds_toArray, List.set_cons_zero, List.set_cons_succ]
          refine tk (i := 11) (d := 78) (v := (.pointer (some ⟨b2, f2 + i * 3 + 2, none⟩))) rfl rfl (Or.inl ⟨by rfl, by intro W hW; clear hW; go_simp⟩) hd.out ?_
          simp only [List.setIfInBounds_toArray, List.set_cons_zero, List.set_cons_succ]
          refine tk (i := 12) (d := 79) (v := (.slice (some ⟨b4, f4, none⟩) N c4)) rfl rfl (Or.inl ⟨by rfl, by intro W hW; have cc := hb2.out W hW; clear hW; go_simp⟩) hd.out ?_
          simp only [List.setIfInBounds_toArray, List.set_cons_zero, List.set_cons_succ]
          refine tk (i := 13) (d := 80) (v := (.int .i64 (k : Int))) rfl rfl (Or.inl ⟨by rfl, by intro W hW; clear hW; go_simp⟩) hd.out ?_
          simp only [List.setIfInBounds_toArray, List.set_cons_zero, List.set_cons_succ]
          refine tk (i := 14) (d := 81) (v := (.pointer (some ⟨b4, f4 + k * 32, none⟩))) rfl rfl (Or.inl ⟨by rfl, by intro W hW; clear hW; go_simp⟩) hd.out ?_
          simp only [List.setIfInBounds_toArray, List.set_cons_zero, List.set_cons_succ]
          refine tk (i := 15) (d := 82) (v := (.agg (u8s x).toArray)) rfl rfl (yieldsIf_load_mid (by rfl) 29 _ rfl b4 (f4 + k * 32) rfl (u8s x) _ (fun W hW => hr4.out W hW) Try.underlying29 rfl (by rw [hx32.out]; exact hi32.out)) hd.out ?_
          simp only [List.setIfInBounds_toArray, List.set_cons_zero, List.set_cons_succ]
          refine tk (i := 16) (d := 83) (v := (.bool false)) rfl rfl (yieldsIf_binQ (by rfl) .neq 29 _ _ _ rfl (.agg (u8s x).toArray) (.agg (u8s x).toArray) rfl rfl (.bool false) (fun _ => rfl) (fun W _ => hne.out W)) hd.out ?_
          simp only [List.setIfInBounds_toArray, List.set_cons_zero, List.set_cons_succ]
          refine wpAnyH_done (by kernel_rfl) ?_ _
          clear hd
          go_wp2_with fail
          go_roundw
          case rel => exact ⟨k + 1, m + 1, by omega, by go_num, rfl⟩
          case measure => simp [intOf]; omega
        · obtain rfl : k = N := by omega
          go_wp2_with fail
          go_roundw
          case rel => exact ⟨i + 1, m, by omega, by go_num, rfl⟩
          case measure => simp [intOf]; omega
    · obtain rfl : i = n := by omega
      go_wp2_with fail
      go_ret
      exact ⟨rfl, m, rfl⟩
end Go.Proofs.Ytgjokkjmljdmbaa

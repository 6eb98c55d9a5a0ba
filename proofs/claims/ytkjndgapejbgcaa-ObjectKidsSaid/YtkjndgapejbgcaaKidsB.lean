/- Kids of an object: a snapshot's, and none. -/
import Derived.Test.YtkjndgapejbgcaaKids
namespace Go.Proofs.Ytkjndgapejbgcaa
open Go.RowKit
set_option linter.unusedSimpArgs false

theorem Row.flat_range {l : List Key32} {n : Nat} (hn : l.length = n) : (List.range (n * 32)).map (fun j => (flat encK l)[j]?.getD undef) = flat encK l := by
  subst hn
  exact range_flat encK_length l
theorem getD_oneK {l : List Key32} {n : Nat} (hn : l.length = n) : ∀ j, j < n * 32 → ((flat encK l)[j]?.getD undef).oneCell' = true := by
  subst hn
  exact getD_one encK_one encK_length l

set_option maxRecDepth 100000 in
set_option maxHeartbeats 4000000 in
theorem refKids_snap (w : World) (o : ObjT) (p : Lay) (ha : ObjIn w w.heap.size o p) (hf : Fit o) (hk : o.kind = 4) :
    Calls Try.prog 9 #[.agg (ocells o p).toArray] w fun e w' => (∃ A c, e = .returned (.slice A (o.parents.length + 1) c) ∧ Own w' w.heap.size 28 32 A (o.parents.length + 1) c (flat encK (o.tree :: o.parents))) ∧ Below w.heap.size w w' := by
  have hi32 : (Try.prog.info? 28).map (·.size) = some 32 := by kernel_rfl
  have hi32' := Lib.hid hi32
  have ha' := Lib.hid ha
  have hS0' := Lib.hid (KSt.start (w := w) (o := o) (p := p))
  obtain ⟨n, hn⟩ : ∃ n, Hid (∀ _ : Unit, o.parents.length = n) := ⟨_, Lib.hid fun _ => rfl⟩
  have ln : n * 32 ≤ 140737488355328 := by rw [← hn.out ()]; exact hf.ks
  rw [hn.out ()]
  have c0 := hS0'.out.blk.c0
  have c36 := hS0'.out.blk.c36
  have hrg := Lib.hid hS0'.out.blk.tree
  have hle := Lib.hid hS0'.out.le
  rw [hk] at c0
  rw [hn.out ()] at c36
  have hA1 : (0 + 1 : Nat) ≤ maxLen ∧ (0 + 1 + (0 + 1) / 4 + 192) * 32 ≤ 281474976710656 := elemK_ok 0 (by omega)
  have hA1' := Lib.hid hA1
  have hA2' := Lib.hid (show (1 + n : Nat) ≤ maxLen ∧ (1 + n + (1 + n) / 4 + 192) * 32 ≤ 281474976710656 by unfold maxLen; constructor <;> omega)
  clear ha hf hi32 hk hA1

  go_enter Try.func9, Try.ntmps9
  go_wp2_with (first
    | (refine wpList_load_mid rfl 28 _ rfl w.heap.size 4 rfl (encK o.tree) _ hrg.out Try.underlying28 rfl (by rw [encK_length]; exact hi32'.out) ?_)
    | (refine Great.wpList_buildSliceTo rfl 29 28 1 _ rfl _ rfl _ rfl Try.underlying29 (encK o.tree).toArray (by rw [List.map_toArray]; exact built1 o.tree) ?_)
    | (at_builtin; refine wpList_app1 elK _ (encK o.tree).toArray (by simp [encK_length]) rfl _ _ rfl rfl (Own.nil _ (w.heap.size + 1) _ _) rfl (by intro u hu; exact encK_one _ u (by simpa using hu)) hA1'.out.1 hA1'.out.2 hle.out 1 rfl (flat encK [o.tree]) (by simp [flat]) ?_
       intro A1 x1 w2 o1 at1 b1
       have hS2 := Lib.hid (hS0'.out.below b1)
       have o1' := Lib.hid o1
       have hle2 := Lib.hid hS2.out.le
       have d36 := hS2.out.blk.c36
       rw [hn.out ()] at d36
       clear o1 at1 b1 c36 c0)
    | (at_builtin; refine wpList_app elK _ rfl _ _ rfl rfl o1'.out rfl (m := n) (g := fun j => (flat encK o.parents)[j]?.getD undef) (B2 := w.heap.size) (Row.at (ha'.out.below hS2.out.bel).ks (hn.out ())) (getD_oneK (hn.out ())) hA2'.out.1 hA2'.out.2 hle2.out (n + 1) (by omega) (flat encK (o.tree :: o.parents)) (by rw [Row.flat_range (hn.out ()), ← flat_append]; rfl) ?_
       intro A2 x2 w3 o2 at2 b2))
  go_ret
  exact ⟨⟨A2, x2, rfl, o2.base (by omega)⟩, (hS2.out.below b2).bel⟩

theorem none_of {o : ObjT} (h2 : ¬ o.kind = 2) (h3 : ¬ o.kind = 3) (h4 : ¬ o.kind = 4) : kidsL o = [] := by simp [kidsL, h2, h3, h4]

set_option maxRecDepth 100000 in
set_option maxHeartbeats 4000000 in
theorem refKids_none (w : World) (o : ObjT) (p : Lay) (h2 : ¬ o.kind = 2) (h3 : ¬ o.kind = 3) (h4 : ¬ o.kind = 4) :
    Calls Try.prog 9 #[.agg (ocells o p).toArray] w fun e w' => e = .returned (.slice none 0 0) ∧ Below w.heap.size w w' := by
  have hS0' := Lib.hid (KSt.start (w := w) (o := o) (p := p))
  have c0 := hS0'.out.blk.c0
  have k2 : ((o.kind : Int) == 2) = false := by rw [beq_eq_false_iff_ne]; omega
  have k3 : ((o.kind : Int) == 3) = false := by rw [beq_eq_false_iff_ne]; omega
  have k4 : ((o.kind : Int) == 4) = false := by rw [beq_eq_false_iff_ne]; omega
  clear h2 h3 h4
  go_enter Try.func9, Try.ntmps9
  go_wp2_with fail
  go_ret
  exact ⟨rfl, hS0'.out.bel⟩

set_option maxRecDepth 100000 in
set_option maxHeartbeats 4000000 in
theorem kids_none (w : World) (o : ObjT) (p : Lay) (h2 : ¬ o.kind = 2) (h3 : ¬ o.kind = 3) (h4 : ¬ o.kind = 4) :
    Calls Try.prog 10 #[.agg (ocells o p).toArray] w fun e w' => e = .returned (.slice none 0 0) ∧ Below w.heap.size w w' := by
  have hS0' := Lib.hid (KSt.start (w := w) (o := o) (p := p))
  have c0 := hS0'.out.blk.c0
  have k2 : ((o.kind : Int) == 2) = false := by rw [beq_eq_false_iff_ne]; omega
  have k3 : ((o.kind : Int) == 3) = false := by rw [beq_eq_false_iff_ne]; omega
  have k4 : ((o.kind : Int) == 4) = false := by rw [beq_eq_false_iff_ne]; omega
  clear h2 h3 h4
  go_enter Try.func10, Try.ntmps10
  go_wp2_with fail
  go_ret
  exact ⟨rfl, hS0'.out.bel⟩
end Go.Proofs.Ytkjndgapejbgcaa

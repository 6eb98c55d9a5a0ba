/- Why a tree's items may not be. (Printed by tools/genitems.py.) -/
import Derived.Test.YtkjndgapejbgcaaDoorPartsW
import Derived.Test.YtkjndgapejbgcaaDoorNameI
import Derived.BigQuiet
namespace Go.Proofs.YtkjndgapejbgcaaDoor
open Go.RowKit
set_option linter.unusedSimpArgs false

def nameOk (s : ByteArray) : Bool := Fine s && nameD s s.size 0
/-- The text before or the same. -/
def leS (a b : ByteArray) : Bool := Op.bytesLess a.toList b.toList || a.toList == b.toList
def badMode (x : ItemT) : Prop := x.2.1 < 1 ∨ 4 < x.2.1 ∨ (x.2.1 = 3 ∧ ¬ x.2.2.1 = 0)
instance (x : ItemT) : Decidable (badMode x) := inferInstanceAs (Decidable (_ ∨ _ ∨ _))
def itemsE : Option ByteArray → List ItemT → Nat
  | _, [] => 0
  | p, x :: l => if nameOk x.1 = false then 43 else if (p.any fun q => leS x.1 q) = true then 44 else if badMode x then 45 else itemsE (some x.1) l
/-- The name ahead of place k. -/
def ahead (l : List ItemT) (k : Nat) : Option ByteArray := if k = 0 then none else some (l[k - 1]?.getD (⟨#[]⟩, 0, 0, ⟨zeros 32, by simp [zeros]⟩)).1
theorem itemsE_at {l : List ItemT} {k : Nat} (hk : k < l.length) : itemsE (ahead l k) (l.drop k) = if nameOk l[k].1 = false then 43 else if ((ahead l k).any fun q => leS l[k].1 q) = true then 44 else if badMode l[k] then 45 else itemsE (ahead l (k + 1)) (l.drop (k + 1)) := by
  rw [List.drop_eq_getElem_cons hk]
  have : ahead l (k + 1) = some l[k].1 := by simp [ahead, hk]
  rw [this]
  rfl
theorem ahead_zero (l : List ItemT) : ahead l 0 = none := rfl
theorem ahead_succ {l : List ItemT} {j : Nat} (hj : j < l.length) : ahead l (j + 1) = some l[j].1 := by simp [ahead, hj]
theorem leq_run (a b : ByteArray) (w : World) : (binOp .leq 9 (.string a) (.string b)).run Tryd.prog w = .ok (.bool (leS a b)) w := by rw [binOp_string_leq]; rfl

set_option maxRecDepth 100000 in
set_option maxHeartbeats 4000000 in
theorem items_any (w : World) (hT : U8T w) (l : List ItemT) (A : Option Addr) (n c : Nat) (hn0 : l.length = n) (hr : Row encI 35 w w.heap.size A l) (hl : n ≤ 140737488355328) :
    Calls Tryd.prog 65 #[.slice A n c] w fun e w' => e = .returned (.int .i64 (itemsE none l : Nat)) ∧ Below w.heap.size w w' := by
  have hi35 : (Tryd.prog.info? 50).map (·.size) = some 35 := by kernel_rfl
  have hi35' := Lib.hid hi35
  have zI := zeroI
  have hT' := Lib.hid hT
  have hr' := Lib.hid hr
  have hn := Lib.hid (fun _ : Unit => hn0)
  obtain ⟨R, hR⟩ : ∃ R, itemsE none l = R := ⟨_, rfl⟩
  have hR' : Hid (itemsE (ahead l 0) (l.drop 0) = R) := Lib.hid hR
  rw [hR]
  clear hi35 hT hr hn0 hR
  go_enter Tryd.func65, Tryd.ntmps65
  go_wp2_with fail
  go_loopw [7] (fun iv wr => ∃ k : Nat, k ≤ n ∧ iv = .int .i64 (k : Int) ∧ Hid (itemsE (ahead l k) (l.drop k) = R) ∧ Hid (Below w.heap.size w wr)) (fun iv _ => n - (intOf iv).toNat)
  case atStart => exact ⟨0, by omega, rfl, hR', Lib.hid (Below.refl _ _)⟩
  case round =>
    clear hR'
    obtain ⟨k, hk, rfl, hR, hB⟩ := hrel
    by_cases hlt : k < n
    · have hkx : k < l.length := by rw [hn.out ()]; exact hlt
      obtain ⟨b, off, rfl, hb, hc⟩ := Row.elem (Rd.below hr'.out hB.out) encI_length (by decide) hkx
      have hRk := hR.out
      rw [itemsE_at hkx] at hRk
      obtain ⟨x, hx⟩ : ∃ x, l[k] = x := ⟨_, rfl⟩
      rw [hx] at hc hRk
      obtain ⟨nm, hnm⟩ : ∃ y, x.1 = y := ⟨_, rfl⟩
      obtain ⟨mo, hmo⟩ : ∃ y, x.2.1 = y := ⟨_, rfl⟩
      obtain ⟨z, hz⟩ : ∃ y, x.2.2.1 = y := ⟨_, rfl⟩
      have hrg := Lib.hid (show wr.rangeAt b (off + k * 35) (encI x) from fun j v hv => hc j v hv)
      have hnw := row_new wr 50 (encI (⟨#[]⟩, 0, 0, zK)).toArray (encI x).toArray
      have hN := Lib.hid hnw.1
      have hNb := Lib.hid (hnw.2 _ (show w.heap.size ≤ wr.heap.size from hB.out.size))
      have hxs' := Lib.hid (show (encI x).toArray.size = 35 by simp [encI_length])
      have hzs' := Lib.hid (show (encI (⟨#[]⟩, 0, 0, zK)).toArray.size = 35 by simp [encI_length])
      have hone' := Lib.hid (show (encI x).toArray.all (·.oneCell') = true from all_oneCell_toArray (encI_one x))
      have h0' := Lib.hid (show (encI x)[0]? = some (.string nm) by simp [encI, hnm])
      have h1' := Lib.hid (show (encI x)[1]? = some (.int .u8 (mo : Int)) by simp [encI, hmo])
      have h2' := Lib.hid (show (encI x)[2]? = some (.int .u64 (z : Int)) by simp [encI, hz])
      have hbm : badMode x = (mo < 1 ∨ 4 < mo ∨ (mo = 3 ∧ ¬ z = 0)) := by unfold badMode; rw [hmo, hz]
      rw [hnm] at hRk
      obtain ⟨ok, hok⟩ : ∃ ok, nameOk nm = ok := ⟨_, rfl⟩
      rw [hok] at hRk
      have hnok : Hid ((Fine nm && nameD nm nm.size 0) = ok) := Lib.hid hok
      cases ok with
      | false =>
        have hR43 : 43 = R := by simpa using hRk
        subst hR43
        clear hRk hbm hmo hz hnm hok hc hnw hx hkx hR
        go_wp2_with (first
            | (refine wpList_load_mid rfl 50 _ rfl b (off + k * 35) rfl (encI x) _ hrg.out Tryd.underlying50 rfl (by rw [encI_length]; exact hi35'.out) ?_)
            | (refine wpList_store_row rfl 50 _ _ rfl wr.heap.size (encI x).toArray rfl rfl 50 _ (heap_alloc_new wr _) (by rw [hxs'.out]; exact hi35'.out) (by rw [hxs'.out, hzs'.out]) hone'.out ?_
               generalize ((wr.alloc (.cells (encI (⟨#[]⟩, 0, 0, zK)).toArray 50)).setRow wr.heap.size (encI x).toArray) = w2 at hN hNb ⊢
               have c0 : w2.cell? ⟨wr.heap.size, 0, none⟩ = some (.string nm) := (cell_of_row _ _ _ _ _ _ hN.out).trans (by simpa using h0'.out))
            | (go_at_call 10
               refine (isName_any nm w2 (u8t_keep hT'.out (hB.out.trans hNb.out))).mono ?_
               rintro e w3 ⟨rfl, b3⟩
               rw [hnok.out]
               have hN3 := Lib.hid ((b3.block wr.heap.size (lt_of_block hN.out)).trans hN.out)
               have hB3 := Lib.hid ((hB.out.trans hNb.out).trans (b3.mono (Nat.le_trans hB.out.size (show wr.heap.size ≤ w2.heap.size from Nat.le_of_lt (lt_of_block hN.out)))))
               have d0 : w3.cell? ⟨wr.heap.size, 0, none⟩ = some (.string nm) := (cell_of_row _ _ _ _ _ _ hN3.out).trans (by simpa using h0'.out)
               have d1 : w3.cell? ⟨wr.heap.size, 1, none⟩ = some (.int .u8 (mo : Int)) := (cell_of_row _ _ _ _ _ _ hN3.out).trans (by simpa using h1'.out)
               have d2 : w3.cell? ⟨wr.heap.size, 2, none⟩ = some (.int .u64 (z : Int)) := (cell_of_row _ _ _ _ _ _ hN3.out).trans (by simpa using h2'.out)
               clear b3 c0))
        go_ret
        exact ⟨rfl, hB3.out⟩
      | true =>
        rw [if_neg (by decide)] at hRk
        rcases Nat.eq_zero_or_pos k with hk0 | hk0
        · subst hk0
          rw [ahead_zero, Option.any_none, if_neg (by decide)] at hRk
          have hbad : Hid ((mo < 1 ∨ 4 < mo ∨ (mo = 3 ∧ ¬ z = 0)) → R = 45) := Lib.hid fun h => by rw [if_pos (by rw [hbm]; exact h)] at hRk; exact hRk.symm
          have hgood : Hid (¬ (mo < 1 ∨ 4 < mo ∨ (mo = 3 ∧ ¬ z = 0)) → itemsE (ahead l (0 + 1)) (l.drop (0 + 1)) = R) := Lib.hid fun h => by rw [if_neg (by rw [hbm]; exact h)] at hRk; exact hRk
          clear hRk hbm hmo hz hnm hok hc hnw hx hkx hR
          go_wp2_with (first
            | (refine wpList_load_mid rfl 50 _ rfl b (off + 0 * 35) rfl (encI x) _ hrg.out Tryd.underlying50 rfl (by rw [encI_length]; exact hi35'.out) ?_)
            | (refine wpList_store_row rfl 50 _ _ rfl wr.heap.size (encI x).toArray rfl rfl 50 _ (heap_alloc_new wr _) (by rw [hxs'.out]; exact hi35'.out) (by rw [hxs'.out, hzs'.out]) hone'.out ?_
               generalize ((wr.alloc (.cells (encI (⟨#[]⟩, 0, 0, zK)).toArray 50)).setRow wr.heap.size (encI x).toArray) = w2 at hN hNb ⊢
               have c0 : w2.cell? ⟨wr.heap.size, 0, none⟩ = some (.string nm) := (cell_of_row _ _ _ _ _ _ hN.out).trans (by simpa using h0'.out))
            | (go_at_call 10
               refine (isName_any nm w2 (u8t_keep hT'.out (hB.out.trans hNb.out))).mono ?_
               rintro e w3 ⟨rfl, b3⟩
               rw [hnok.out]
               have hN3 := Lib.hid ((b3.block wr.heap.size (lt_of_block hN.out)).trans hN.out)
               have hB3 := Lib.hid ((hB.out.trans hNb.out).trans (b3.mono (Nat.le_trans hB.out.size (show wr.heap.size ≤ w2.heap.size from Nat.le_of_lt (lt_of_block hN.out)))))
               have d0 : w3.cell? ⟨wr.heap.size, 0, none⟩ = some (.string nm) := (cell_of_row _ _ _ _ _ _ hN3.out).trans (by simpa using h0'.out)
               have d1 : w3.cell? ⟨wr.heap.size, 1, none⟩ = some (.int .u8 (mo : Int)) := (cell_of_row _ _ _ _ _ _ hN3.out).trans (by simpa using h1'.out)
               have d2 : w3.cell? ⟨wr.heap.size, 2, none⟩ = some (.int .u64 (z : Int)) := (cell_of_row _ _ _ _ _ _ hN3.out).trans (by simpa using h2'.out)
               clear b3 c0))
          go_quiet (fail)
          go_wp2_with fail
          all_goals (try simp only [bne_iff_ne, bne_eq_false_iff_eq, beq_iff_eq, beq_eq_false_iff_ne, Bool.not_eq_false', Bool.not_eq_true', decide_eq_true_eq, decide_eq_false_iff_not, ne_eq, gt_iff_lt] at *)
          all_goals first
            | (go_ret; exact ⟨ret_int (by rw [hbad.out (by omega)]; rfl), below_drewN hB3.out _⟩)
            | (go_roundw
               case rel => exact ⟨0 + 1, by omega, by go_num, Lib.hid (hgood.out (by omega)), Lib.hid (below_drewN hB3.out _)⟩
               case measure => simp [intOf]; omega)
        · obtain ⟨j, hj⟩ : ∃ j, j + 1 = k := ⟨k - 1, by omega⟩
          have hjx : j < l.length := by omega
          obtain ⟨b2, off2, e2, _, hcj⟩ := Row.elem hr'.out encI_length (by decide) hjx
          obtain ⟨pn, hpn⟩ : ∃ y, (l[j]).1 = y := ⟨_, rfl⟩
          have hcp0 := hcj 0 (.string pn) (by simp [encI, hpn])
          injection e2 with e2
          injection e2 with e3 e4
          subst e3 e4
          have hcp : Hid (w.cell? ⟨b, off + j * 35, none⟩ = some (.string pn)) := Lib.hid hcp0
          rw [show ahead l k = some l[j].1 from hj ▸ ahead_succ hjx, Option.any_some, hpn] at hRk
          obtain ⟨LE, hLE⟩ : ∃ q, leS nm pn = q := ⟨_, rfl⟩
          rw [hLE] at hRk
          have hq : ∀ w, (binOp .leq 9 (.string nm) (.string pn)).run Tryd.prog w = .ok (.bool LE) w := fun w => by rw [← hLE]; exact leq_run nm pn w
          have hq2 : (Op.bytesLess nm.toList pn.toList || nm.toList == pn.toList) = LE := hLE
          have hw1 : IntKind.i64.wrap ((k : Int) - 1) = (j : Int) := by rw [IntKind.wrap_i64]; omega
          clear hcj hcp0 hjx hpn
          cases LE with
          | true =>
            have hR44 : 44 = R := by simpa using hRk
            subst hR44
            clear hRk hbm hmo hz hnm hok hc hnw hx hkx hR hLE
            go_wp2_with (first
            | (refine wpList_load_mid rfl 50 _ rfl b (off + k * 35) rfl (encI x) _ hrg.out Tryd.underlying50 rfl (by rw [encI_length]; exact hi35'.out) ?_)
            | (refine wpList_store_row rfl 50 _ _ rfl wr.heap.size (encI x).toArray rfl rfl 50 _ (heap_alloc_new wr _) (by rw [hxs'.out]; exact hi35'.out) (by rw [hxs'.out, hzs'.out]) hone'.out ?_
               generalize ((wr.alloc (.cells (encI (⟨#[]⟩, 0, 0, zK)).toArray 50)).setRow wr.heap.size (encI x).toArray) = w2 at hN hNb ⊢
               have c0 : w2.cell? ⟨wr.heap.size, 0, none⟩ = some (.string nm) := (cell_of_row _ _ _ _ _ _ hN.out).trans (by simpa using h0'.out))
            | (go_at_call 10
               refine (isName_any nm w2 (u8t_keep hT'.out (hB.out.trans hNb.out))).mono ?_
               rintro e w3 ⟨rfl, b3⟩
               rw [hnok.out]
               have hN3 := Lib.hid ((b3.block wr.heap.size (lt_of_block hN.out)).trans hN.out)
               have hB3 := Lib.hid ((hB.out.trans hNb.out).trans (b3.mono (Nat.le_trans hB.out.size (show wr.heap.size ≤ w2.heap.size from Nat.le_of_lt (lt_of_block hN.out)))))
               have d0 : w3.cell? ⟨wr.heap.size, 0, none⟩ = some (.string nm) := (cell_of_row _ _ _ _ _ _ hN3.out).trans (by simpa using h0'.out)
               have d1 : w3.cell? ⟨wr.heap.size, 1, none⟩ = some (.int .u8 (mo : Int)) := (cell_of_row _ _ _ _ _ _ hN3.out).trans (by simpa using h1'.out)
               have d2 : w3.cell? ⟨wr.heap.size, 2, none⟩ = some (.int .u64 (z : Int)) := (cell_of_row _ _ _ _ _ _ hN3.out).trans (by simpa using h2'.out)
               have dp : w3.cell? ⟨b, off + j * 35, none⟩ = some (.string pn) := (hB3.out.cell hb).trans hcp.out
               clear b3 c0))
            go_quiet (fail)
            go_wp2_with fail
            go_ret
            exact ⟨rfl, below_drewN hB3.out _⟩
          | false =>
            rw [if_neg (by decide)] at hRk
            have hbad : Hid ((mo < 1 ∨ 4 < mo ∨ (mo = 3 ∧ ¬ z = 0)) → R = 45) := Lib.hid fun h => by rw [if_pos (by rw [hbm]; exact h)] at hRk; exact hRk.symm
            have hgood : Hid (¬ (mo < 1 ∨ 4 < mo ∨ (mo = 3 ∧ ¬ z = 0)) → itemsE (ahead l (k + 1)) (l.drop (k + 1)) = R) := Lib.hid fun h => by rw [if_neg (by rw [hbm]; exact h)] at hRk; exact hRk
            clear hRk hbm hmo hz hnm hok hc hnw hx hkx hR hLE
            go_wp2_with (first
            | (refine wpList_load_mid rfl 50 _ rfl b (off + k * 35) rfl (encI x) _ hrg.out Tryd.underlying50 rfl (by rw [encI_length]; exact hi35'.out) ?_)
            | (refine wpList_store_row rfl 50 _ _ rfl wr.heap.size (encI x).toArray rfl rfl 50 _ (heap_alloc_new wr _) (by rw [hxs'.out]; exact hi35'.out) (by rw [hxs'.out, hzs'.out]) hone'.out ?_
               generalize ((wr.alloc (.cells (encI (⟨#[]⟩, 0, 0, zK)).toArray 50)).setRow wr.heap.size (encI x).toArray) = w2 at hN hNb ⊢
               have c0 : w2.cell? ⟨wr.heap.size, 0, none⟩ = some (.string nm) := (cell_of_row _ _ _ _ _ _ hN.out).trans (by simpa using h0'.out))
            | (go_at_call 10
               refine (isName_any nm w2 (u8t_keep hT'.out (hB.out.trans hNb.out))).mono ?_
               rintro e w3 ⟨rfl, b3⟩
               rw [hnok.out]
               have hN3 := Lib.hid ((b3.block wr.heap.size (lt_of_block hN.out)).trans hN.out)
               have hB3 := Lib.hid ((hB.out.trans hNb.out).trans (b3.mono (Nat.le_trans hB.out.size (show wr.heap.size ≤ w2.heap.size from Nat.le_of_lt (lt_of_block hN.out)))))
               have d0 : w3.cell? ⟨wr.heap.size, 0, none⟩ = some (.string nm) := (cell_of_row _ _ _ _ _ _ hN3.out).trans (by simpa using h0'.out)
               have d1 : w3.cell? ⟨wr.heap.size, 1, none⟩ = some (.int .u8 (mo : Int)) := (cell_of_row _ _ _ _ _ _ hN3.out).trans (by simpa using h1'.out)
               have d2 : w3.cell? ⟨wr.heap.size, 2, none⟩ = some (.int .u64 (z : Int)) := (cell_of_row _ _ _ _ _ _ hN3.out).trans (by simpa using h2'.out)
               have dp : w3.cell? ⟨b, off + j * 35, none⟩ = some (.string pn) := (hB3.out.cell hb).trans hcp.out
               clear b3 c0))
            go_quiet (fail)
            go_wp2_with fail
            all_goals (try simp only [bne_iff_ne, bne_eq_false_iff_eq, beq_iff_eq, beq_eq_false_iff_ne, Bool.not_eq_false', Bool.not_eq_true', decide_eq_true_eq, decide_eq_false_iff_not, ne_eq, gt_iff_lt] at *)
            all_goals first
              | (go_ret; exact ⟨ret_int (by rw [hbad.out (by omega)]; rfl), below_drewN hB3.out _⟩)
              | (go_roundw
                 case rel => exact ⟨k + 1, by omega, by go_num, Lib.hid (hgood.out (by omega)), Lib.hid (below_drewN hB3.out _)⟩
                 case measure => simp [intOf]; omega)
    · obtain rfl : k = n := by omega
      have hRn : 0 = R := by
        have := hR.out
        rw [List.drop_eq_nil_of_le (by rw [hn.out ()]; exact Nat.le_refl _)] at this
        exact this
      subst hRn
      go_wp2_with fail
      go_ret
      exact ⟨rfl, hB.out⟩
end Go.Proofs.YtkjndgapejbgcaaDoor

/- Why a tree's items may not be. (Printed by tools/genitems.py.) Bytes appended. No program is named here. An encoder in memory: what its methods lay. An encoder's further methods: Var, Key, Len, Put of a byte. -/
import Derived.Test.YtkjndgapejbgcaaDoorPkA10
import Derived.Test.YtkjndgapejbgcaaDoorPkA11
import Derived.BigQuiet
import Derived.Test.YtkjndgapejbgcaaDoorPkA2
import Derived.Test.YtkjndgapejbgcaaDoorPkA5
import Derived.StillTailTactics
import Derived.Shelf.Bytes.SlClone
import Derived.Laws.Pointers
import Derived.Laws.Shifts

namespace Go.Proofs.YtkjndgapejbgcaaDoor
open Go.RowKit
set_option linter.unusedSimpArgs false

def nameOk (s : ByteArray) : Bool := Fine s && nameD s s.size 0
/-- The text before or the same. -/
def leS (a b : ByteArray) : Bool := Op.bytesLess a.toList b.toList || a.toList == b.toList
def badMode (x : ItemT) : Prop := x.2.1 < 1 ∨ 4 < x.2.1 ∨ (x.2.1 = 3 ∧ ¬ x.2.2.1 = 0)
instance (x : ItemT) : Decidable (badMode x) := inferInstanceAs (Decidable (_ ∨ _ ∨ _))
def itemsE : Option ByteArray → List ItemT → Nat
  | _, [] => 0
  | p, x :: l => if nameOk x.1 = false then 43 else if (p.any fun q => leS x.1 q) = true then 44 else if badMode x then 45 else itemsE (some x.1) l
/-- The name ahead of place k. -/
def ahead (l : List ItemT) (k : Nat) : Option ByteArray := if k = 0 then none else some (l[k - 1]?.getD (⟨#[]⟩, 0, 0, ⟨zeros 32, by simp [zeros]⟩)).1
theorem itemsE_at {l : List ItemT} {k : Nat} (hk : k < l.length) : itemsE (ahead l k) (l.drop k) = if nameOk l[k].1 = false then 43 else if ((ahead l k).any fun q => leS l[k].1 q) = true then 44 else if badMode l[k] then 45 else itemsE (ahead l (k + 1)) (l.drop (k + 1)) := by
  rw [List.drop_eq_getElem_cons hk]
  have : ahead l (k + 1) = some l[k].1 := by simp [ahead, hk]
  rw [this]
  rfl
theorem ahead_zero (l : List ItemT) : ahead l 0 = none := rfl
theorem ahead_succ {l : List ItemT} {j : Nat} (hj : j < l.length) : ahead l (j + 1) = some l[j].1 := by simp [ahead, hj]
theorem leq_run (a b : ByteArray) (w : World) : (binOp .leq 9 (.string a) (.string b)).run Tryd.prog w = .ok (.bool (leS a b)) w := by rw [binOp_string_leq]; rfl

set_option maxRecDepth 100000 in
set_option maxHeartbeats 4000000 in
theorem items_any (w : World) (hT : U8T w) (l : List ItemT) (A : Option Addr) (n c : Nat) (hn0 : l.length = n) (hr : Row encI 35 w w.heap.size A l) (hl : n ≤ 140737488355328) :
    Calls Tryd.prog 65 #[.slice A n c] w fun e w' => e = .returned (.int .i64 (itemsE none l : Nat)) ∧ Below w.heap.size w w' := by
  have hi35 : (Tryd.prog.info? 50).map (·.size) = some 35 := by kernel_rfl
  have hi35' := Lib.hid hi35
  have zI := zeroI
  have hT' := Lib.hid hT
  have hr' := Lib.hid hr
  have hn := Lib.hid (fun _ : Unit => hn0)
  obtain ⟨R, hR⟩ : ∃ R, itemsE none l = R := ⟨_, rfl⟩
  have hR' : Hid (itemsE (ahead l 0) (l.drop 0) = R) := Lib.hid hR
  rw [hR]
  clear hi35 hT hr hn0 hR
  go_enter Tryd.func65, Tryd.ntmps65
  go_wp2_with fail
  go_loopw [7] (fun iv wr => ∃ k : Nat, k ≤ n ∧ iv = .int .i64 (k : Int) ∧ Hid (itemsE (ahead l k) (l.drop k) = R) ∧ Hid (Below w.heap.size w wr)) (fun iv _ => n - (intOf iv).toNat)
  case atStart => exact ⟨0, by omega, rfl, hR', Lib.hid (Below.refl _ _)⟩
  case round =>
    clear hR'
    obtain ⟨k, hk, rfl, hR, hB⟩ := hrel
    by_cases hlt : k < n
    · have hkx : k < l.length := by rw [hn.out ()]; exact hlt
      obtain ⟨b, off, rfl, hb, hc⟩ := Row.elem (Rd.below hr'.out hB.out) encI_length (by decide) hkx
      have hRk := hR.out
      rw [itemsE_at hkx] at hRk
      obtain ⟨x, hx⟩ : ∃ x, l[k] = x := ⟨_, rfl⟩
      rw [hx] at hc hRk
      obtain ⟨nm, hnm⟩ : ∃ y, x.1 = y := ⟨_, rfl⟩
      obtain ⟨mo, hmo⟩ : ∃ y, x.2.1 = y := ⟨_, rfl⟩
      obtain ⟨z, hz⟩ : ∃ y, x.2.2.1 = y := ⟨_, rfl⟩
      have hrg := Lib.hid (show wr.rangeAt b (off + k * 35) (encI x) from fun j v hv => hc j v hv)
      have hnw := row_new wr 50 (encI (⟨#[]⟩, 0, 0, zK)).toArray (encI x).toArray
      have hN := Lib.hid hnw.1
      have hNb := Lib.hid (hnw.2 _ (show w.heap.size ≤ wr.heap.size from hB.out.size))
      have hxs' := Lib.hid (show (encI x).toArray.size = 35 by simp [encI_length])
      have hzs' := Lib.hid (show (encI (⟨#[]⟩, 0, 0, zK)).toArray.size = 35 by simp [encI_length])
      have hone' := Lib.hid (show (encI x).toArray.all (·.oneCell') = true from all_oneCell_toArray (encI_one x))
      have h0' := Lib.hid (show (encI x)[0]? = some (.string nm) by simp [encI, hnm])
      have h1' := Lib.hid (show (encI x)[1]? = some (.int .u8 (mo : Int)) by simp [encI, hmo])
      have h2' := Lib.hid (show (encI x)[2]? = some (.int .u64 (z : Int)) by simp [encI, hz])
      have hbm : badMode x = (mo < 1 ∨ 4 < mo ∨ (mo = 3 ∧ ¬ z = 0)) := by unfold badMode; rw [hmo, hz]
      rw [hnm] at hRk
      obtain ⟨ok, hok⟩ : ∃ ok, nameOk nm = ok := ⟨_, rfl⟩
      rw [hok] at hRk
      have hnok : Hid ((Fine nm && nameD nm nm.size 0) = ok) := Lib.hid hok
      cases ok with
      | false =>
        have hR43 : 43 = R := by simpa using hRk
        subst hR43
        clear hRk hbm hmo hz hnm hok hc hnw hx hkx hR
        go_wp2_with (first
            | (refine wpList_load_mid rfl 50 _ rfl b (off + k * 35) rfl (encI x) _ hrg.out Tryd.underlying50 rfl (by rw [encI_length]; exact hi35'.out) ?_)
            | (refine wpList_store_row rfl 50 _ _ rfl wr.heap.size (encI x).toArray rfl rfl 50 _ (heap_alloc_new wr _) (by rw [hxs'.out]; exact hi35'.out) (by rw [hxs'.out, hzs'.out]) hone'.out ?_
               generalize ((wr.alloc (.cells (encI (⟨#[]⟩, 0, 0, zK)).toArray 50)).setRow wr.heap.size (encI x).toArray) = w2 at hN hNb ⊢
               have c0 : w2.cell? ⟨wr.heap.size, 0, none⟩ = some (.string nm) := (cell_of_row _ _ _ _ _ _ hN.out).trans (by simpa using h0'.out))
            | (go_at_call 10
               refine (isName_any nm w2 (u8t_keep hT'.out (hB.out.trans hNb.out))).mono ?_
               rintro e w3 ⟨rfl, b3⟩
               rw [hnok.out]
               have hN3 := Lib.hid ((b3.block wr.heap.size (lt_of_block hN.out)).trans hN.out)
               have hB3 := Lib.hid ((hB.out.trans hNb.out).trans (b3.mono (Nat.le_trans hB.out.size (show wr.heap.size ≤ w2.heap.size from Nat.le_of_lt (lt_of_block hN.out)))))
               have d0 : w3.cell? ⟨wr.heap.size, 0, none⟩ = some (.string nm) := (cell_of_row _ _ _ _ _ _ hN3.out).trans (by simpa using h0'.out)
               have d1 : w3.cell? ⟨wr.heap.size, 1, none⟩ = some (.int .u8 (mo : Int)) := (cell_of_row _ _ _ _ _ _ hN3.out).trans (by simpa using h1'.out)
               have d2 : w3.cell? ⟨wr.heap.size, 2, none⟩ = some (.int .u64 (z : Int)) := (cell_of_row _ _ _ _ _ _ hN3.out).trans (by simpa using h2'.out)
               clear b3 c0))
        go_ret
        exact ⟨rfl, hB3.out⟩
      | true =>
        rw [if_neg (by decide)] at hRk
        rcases Nat.eq_zero_or_pos k with hk0 | hk0
        · subst hk0
          rw [ahead_zero, Option.any_none, if_neg (by decide)] at hRk
          have hbad : Hid ((mo < 1 ∨ 4 < mo ∨ (mo = 3 ∧ ¬ z = 0)) → R = 45) := Lib.hid fun h => by rw [if_pos (by rw [hbm]; exact h)] at hRk; exact hRk.symm
          have hgood : Hid (¬ (mo < 1 ∨ 4 < mo ∨ (mo = 3 ∧ ¬ z = 0)) → itemsE (ahead l (0 + 1)) (l.drop (0 + 1)) = R) := Lib.hid fun h => by rw [if_neg (by rw [hbm]; exact h)] at hRk; exact hRk
          clear hRk hbm hmo hz hnm hok hc hnw hx hkx hR
          go_wp2_with (first
            | (refine wpList_load_mid rfl 50 _ rfl b (off + 0 * 35) rfl (encI x) _ hrg.out Tryd.underlying50 rfl (by rw [encI_length]; exact hi35'.out) ?_)
            | (refine wpList_store_row rfl 50 _ _ rfl wr.heap.size (encI x).toArray rfl rfl 50 _ (heap_alloc_new wr _) (by rw [hxs'.out]; exact hi35'.out) (by rw [hxs'.out, hzs'.out]) hone'.out ?_
               generalize ((wr.alloc (.cells (encI (⟨#[]⟩, 0, 0, zK)).toArray 50)).setRow wr.heap.size (encI x).toArray) = w2 at hN hNb ⊢
               have c0 : w2.cell? ⟨wr.heap.size, 0, none⟩ = some (.string nm) := (cell_of_row _ _ _ _ _ _ hN.out).trans (by simpa using h0'.out))
            | (go_at_call 10
               refine (isName_any nm w2 (u8t_keep hT'.out (hB.out.trans hNb.out))).mono ?_
               rintro e w3 ⟨rfl, b3⟩
               rw [hnok.out]
               have hN3 := Lib.hid ((b3.block wr.heap.size (lt_of_block hN.out)).trans hN.out)
               have hB3 := Lib.hid ((hB.out.trans hNb.out).trans (b3.mono (Nat.le_trans hB.out.size (show wr.heap.size ≤ w2.heap.size from Nat.le_of_lt (lt_of_block hN.out)))))
               have d0 : w3.cell? ⟨wr.heap.size, 0, none⟩ = some (.string nm) := (cell_of_row _ _ _ _ _ _ hN3.out).trans (by simpa using h0'.out)
               have d1 : w3.cell? ⟨wr.heap.size, 1, none⟩ = some (.int .u8 (mo : Int)) := (cell_of_row _ _ _ _ _ _ hN3.out).trans (by simpa using h1'.out)
               have d2 : w3.cell? ⟨wr.heap.size, 2, none⟩ = some (.int .u64 (z : Int)) := (cell_of_row _ _ _ _ _ _ hN3.out).trans (by simpa using h2'.out)
               clear b3 c0))
          go_quiet (fail)
          go_wp2_with fail
          all_goals (try simp only [bne_iff_ne, bne_eq_false_iff_eq, beq_iff_eq, beq_eq_false_iff_ne, Bool.not_eq_false', Bool.not_eq_true', decide_eq_true_eq, decide_eq_false_iff_not, ne_eq, gt_iff_lt] at *)
          all_goals first
            | (go_ret; exact ⟨ret_int (by rw [hbad.out (by omega)]; rfl), below_drewN hB3.out _⟩)
            | (go_roundw
               case rel => exact ⟨0 + 1, by omega, by go_num, Lib.hid (hgood.out (by omega)), Lib.hid (below_drewN hB3.out _)⟩
               case measure => simp [intOf]; omega)
        · obtain ⟨j, hj⟩ : ∃ j, j + 1 = k := ⟨k - 1, by omega⟩
          have hjx : j < l.length := by omega
          obtain ⟨b2, off2, e2, _, hcj⟩ := Row.elem hr'.out encI_length (by decide) hjx
          obtain ⟨pn, hpn⟩ : ∃ y, (l[j]).1 = y := ⟨_, rfl⟩
          have hcp0 := hcj 0 (.string pn) (by simp [encI, hpn])
          injection e2 with e2
          injection e2 with e3 e4
          subst e3 e4
          have hcp : Hid (w.cell? ⟨b, off + j * 35, none⟩ = some (.string pn)) := Lib.hid hcp0
          rw [show ahead l k = some l[j].1 from hj ▸ ahead_succ hjx, Option.any_some, hpn] at hRk
          obtain ⟨LE, hLE⟩ : ∃ q, leS nm pn = q := ⟨_, rfl⟩
          rw [hLE] at hRk
          have hq : ∀ w, (binOp .leq 9 (.string nm) (.string pn)).run Tryd.prog w = .ok (.bool LE) w := fun w => by rw [← hLE]; exact leq_run nm pn w
          have hq2 : (Op.bytesLess nm.toList pn.toList || nm.toList == pn.toList) = LE := hLE
          have hw1 : IntKind.i64.wrap ((k : Int) - 1) = (j : Int) := by rw [IntKind.wrap_i64]; omega
          clear hcj hcp0 hjx hpn
          cases LE with
          | true =>
            have hR44 : 44 = R := by simpa using hRk
            subst hR44
            clear hRk hbm hmo hz hnm hok hc hnw hx hkx hR hLE
            go_wp2_with (first
            | (refine wpList_load_mid rfl 50 _ rfl b (off + k * 35) rfl (encI x) _ hrg.out Tryd.underlying50 rfl (by rw [encI_length]; exact hi35'.out) ?_)
            | (refine wpList_store_row rfl 50 _ _ rfl wr.heap.size (encI x).toArray rfl rfl 50 _ (heap_alloc_new wr _) (by rw [hxs'.out]; exact hi35'.out) (by rw [hxs'.out, hzs'.out]) hone'.out ?_
               generalize ((wr.alloc (.cells (encI (⟨#[]⟩, 0, 0, zK)).toArray 50)).setRow wr.heap.size (encI x).toArray) = w2 at hN hNb ⊢
               have c0 : w2.cell? ⟨wr.heap.size, 0, none⟩ = some (.string nm) := (cell_of_row _ _ _ _ _ _ hN.out).trans (by simpa using h0'.out))
            | (go_at_call 10
               refine (isName_any nm w2 (u8t_keep hT'.out (hB.out.trans hNb.out))).mono ?_
               rintro e w3 ⟨rfl, b3⟩
               rw [hnok.out]
               have hN3 := Lib.hid ((b3.block wr.heap.size (lt_of_block hN.out)).trans hN.out)
               have hB3 := Lib.hid ((hB.out.trans hNb.out).trans (b3.mono (Nat.le_trans hB.out.size (show wr.heap.size ≤ w2.heap.size from Nat.le_of_lt (lt_of_block hN.out)))))
               have d0 : w3.cell? ⟨wr.heap.size, 0, none⟩ = some (.string nm) := (cell_of_row _ _ _ _ _ _ hN3.out).trans (by simpa using h0'.out)
               have d1 : w3.cell? ⟨wr.heap.size, 1, none⟩ = some (.int .u8 (mo : Int)) := (cell_of_row _ _ _ _ _ _ hN3.out).trans (by simpa using h1'.out)
               have d2 : w3.cell? ⟨wr.heap.size, 2, none⟩ = some (.int .u64 (z : Int)) := (cell_of_row _ _ _ _ _ _ hN3.out).trans (by simpa using h2'.out)
               have dp : w3.cell? ⟨b, off + j * 35, none⟩ = some (.string pn) := (hB3.out.cell hb).trans hcp.out
               clear b3 c0))
            go_quiet (fail)
            go_wp2_with fail
            go_ret
            exact ⟨rfl, below_drewN hB3.out _⟩
          | false =>
            rw [if_neg (by decide)] at hRk
            have hbad : Hid ((mo < 1 ∨ 4 < mo ∨ (mo = 3 ∧ ¬ z = 0)) → R = 45) := Lib.hid fun h => by rw [if_pos (by rw [hbm]; exact h)] at hRk; exact hRk.symm
            have hgood : Hid (¬ (mo < 1 ∨ 4 < mo ∨ (mo = 3 ∧ ¬ z = 0)) → itemsE (ahead l (k + 1)) (l.drop (k + 1)) = R) := Lib.hid fun h => by rw [if_neg (by rw [hbm]; exact h)] at hRk; exact hRk
            clear hRk hbm hmo hz hnm hok hc hnw hx hkx hR hLE
            go_wp2_with (first
            | (refine wpList_load_mid rfl 50 _ rfl b (off + k * 35) rfl (encI x) _ hrg.out Tryd.underlying50 rfl (by rw [encI_length]; exact hi35'.out) ?_)
            | (refine wpList_store_row rfl 50 _ _ rfl wr.heap.size (encI x).toArray rfl rfl 50 _ (heap_alloc_new wr _) (by rw [hxs'.out]; exact hi35'.out) (by rw [hxs'.out, hzs'.out]) hone'.out ?_
               generalize ((wr.alloc (.cells (encI (⟨#[]⟩, 0, 0, zK)).toArray 50)).setRow wr.heap.size (encI x).toArray) = w2 at hN hNb ⊢
               have c0 : w2.cell? ⟨wr.heap.size, 0, none⟩ = some (.string nm) := (cell_of_row _ _ _ _ _ _ hN.out).trans (by simpa using h0'.out))
            | (go_at_call 10
               refine (isName_any nm w2 (u8t_keep hT'.out (hB.out.trans hNb.out))).mono ?_
               rintro e w3 ⟨rfl, b3⟩
               rw [hnok.out]
               have hN3 := Lib.hid ((b3.block wr.heap.size (lt_of_block hN.out)).trans hN.out)
               have hB3 := Lib.hid ((hB.out.trans hNb.out).trans (b3.mono (Nat.le_trans hB.out.size (show wr.heap.size ≤ w2.heap.size from Nat.le_of_lt (lt_of_block hN.out)))))
               have d0 : w3.cell? ⟨wr.heap.size, 0, none⟩ = some (.string nm) := (cell_of_row _ _ _ _ _ _ hN3.out).trans (by simpa using h0'.out)
               have d1 : w3.cell? ⟨wr.heap.size, 1, none⟩ = some (.int .u8 (mo : Int)) := (cell_of_row _ _ _ _ _ _ hN3.out).trans (by simpa using h1'.out)
               have d2 : w3.cell? ⟨wr.heap.size, 2, none⟩ = some (.int .u64 (z : Int)) := (cell_of_row _ _ _ _ _ _ hN3.out).trans (by simpa using h2'.out)
               have dp : w3.cell? ⟨b, off + j * 35, none⟩ = some (.string pn) := (hB3.out.cell hb).trans hcp.out
               clear b3 c0))
            go_quiet (fail)
            go_wp2_with fail
            all_goals (try simp only [bne_iff_ne, bne_eq_false_iff_eq, beq_iff_eq, beq_eq_false_iff_ne, Bool.not_eq_false', Bool.not_eq_true', decide_eq_true_eq, decide_eq_false_iff_not, ne_eq, gt_iff_lt] at *)
            all_goals first
              | (go_ret; exact ⟨ret_int (by rw [hbad.out (by omega)]; rfl), below_drewN hB3.out _⟩)
              | (go_roundw
                 case rel => exact ⟨k + 1, by omega, by go_num, Lib.hid (hgood.out (by omega)), Lib.hid (below_drewN hB3.out _)⟩
                 case measure => simp [intOf]; omega)
    · obtain rfl : k = n := by omega
      have hRn : 0 = R := by
        have := hR.out
        rw [List.drop_eq_nil_of_le (by rw [hn.out ()]; exact Nat.le_refl _)] at this
        exact this
      subst hRn
      go_wp2_with fail
      go_ret
      exact ⟨rfl, hB.out⟩
end Go.Proofs.YtkjndgapejbgcaaDoor

namespace Go.Proofs.YtkjndgapejbgcaaDoor
open Go.RowKit

section
variable {P : Program} {ops : Array Oper} {rest : List Oper} {o : Oper} {a : Act} {Q : Exit → Act → World → Prop}
/-- append(s, x...) of bytes. -/
theorem wpList_appB {t e : TypeId} {z : Value} (E : ElemOk P t e z 1 1) (w : World) (hgd : o.guard = none) (s x : Operand)
    (ho : o.op = .call { callee := .builtin .append, args := #[s, x], argTypes := #[t, t] })
    {B : Nat} {A : Option Addr} {n c : Nat} {l : List Nat} (hs : a.eval s = .slice A n c) (hown : Own w B e 1 A n c (u8s l))
    {B2 : Nat} {A2 : Option Addr} {k c2 : Nat} {m : List Nat} (hx : a.eval x = .slice A2 k c2) (hm : m.length = k) (hr : Byt w B2 A2 m)
    (hn : n + k ≤ 70368744177664) (hB : B ≤ w.heap.size) (N : Nat) (hN : n + k = N)
    (h : ∀ A' c' w', Own w' B e 1 A' N c' (u8s (l ++ m)) → AppAt w w' A A' → Below B w w' →
      wpList P ops Q rest (a.put o.dst (.slice A' N c')) w') : wpList P ops Q (o :: rest) a w :=
  wpList_app E w hgd s x ho hs hown hx (m := k) (by rw [Nat.mul_one, ← hm]; exact hr) (fun _ _ => rfl) (by unfold maxLen; omega) (by omega) hB N hN _ (u8s_app hm.symm) h
end

theorem ownB_nil (w : World) (B : Nat) (e : TypeId) : Own w B e 1 none 0 0 (u8s []) := Own.nil w B e 1

end Go.Proofs.YtkjndgapejbgcaaDoor

namespace Go.Proofs.YtkjndgapejbgcaaDoor
open Go.RowKit
set_option linter.unusedSimpArgs false

/-- An encoder that owns what it has laid. -/
structure EncAt (w : World) (g : Nat) (A : Option Addr) (c : Nat) (l : List Nat) : Prop where
  blk : w.heap[g]? = some (.cells #[.slice A l.length c, .pointer (some ⟨g, 0, none⟩)] 59 (0, 0))
  own : Own w (g + 1) 5 1 A l.length c (u8s l)
/-- Of what was there only the encoder's block and its row may have changed. -/
structure EncR (g : Nat) (w : World) (A : Option Addr) (w' : World) (A' : Option Addr) : Prop where
  os : w'.os = w.os
  tape : w'.tape = w.tape
  output : w'.output = w.output
  size : w.heap.size ≤ w'.heap.size
  block : ∀ k, k < w.heap.size → k ≠ g → blockOf A ≠ some k → w'.heap[k]? = w.heap[k]?
  link : blockOf A' = blockOf A ∨ ∀ k, blockOf A' = some k → w.heap.size ≤ k
section
variable {g : Nat} {w w' w'' : World} {A A' A'' : Option Addr} {c c' : Nat} {l b : List Nat}
theorem EncR.refl (g : Nat) (w : World) (A : Option Addr) : EncR g w A w A := ⟨rfl, rfl, rfl, Nat.le_refl _, fun _ _ _ _ => rfl, .inl rfl⟩
theorem EncR.trans (h : EncR g w A w' A') (k : EncR g w' A' w'' A'') : EncR g w A w'' A'' := by
  refine ⟨k.os.trans h.os, k.tape.trans h.tape, k.output.trans h.output, Nat.le_trans h.size k.size, fun j hj hg hA => ?_, ?_⟩
  · refine (k.block j (Nat.lt_of_lt_of_le hj h.size) hg fun e => ?_).trans (h.block j hj hg hA)
    rcases h.link with h1 | h1
    · exact hA (h1 ▸ e)
    · have := h1 j e; omega
  · rcases k.link with k1 | k1
    · rcases h.link with h1 | h1
      · exact .inl (k1.trans h1)
      · exact .inr fun j hj => h1 j (k1 ▸ hj)
    · exact .inr fun j hj => Nat.le_trans h.size (k1 j hj)
theorem EncR.below {B : Nat} (h : EncR g w A w' A') (hB : B ≤ g) (hA : ∀ k, blockOf A = some k → B ≤ k) (hs : B ≤ w.heap.size) : Below B w w' :=
  ⟨h.os, h.tape, h.output, h.size, fun k hk => h.block k (by omega) (by omega) (fun e => by have := hA k e; omega)⟩
theorem EncAt.lt (h : EncAt w g A c l) : g < w.heap.size := lt_of_block h.blk
theorem EncAt.off (h : EncAt w g A c l) : ∀ k, blockOf A = some k → g + 1 ≤ k := fun k hk => (h.own.lt k hk).1
theorem EncAt.c0 (h : EncAt w g A c l) : w.cell? ⟨g, 0, none⟩ = some (.slice A l.length c) := cell_of_row _ _ _ _ _ _ h.blk
theorem EncAt.c1 (h : EncAt w g A c l) : w.cell? ⟨g, 1, none⟩ = some (.pointer (some ⟨g, 0, none⟩)) := cell_of_row _ _ _ _ _ _ h.blk
theorem EncAt.fz (h : EncAt w g A c l) (j : Nat) : w.frozen? ⟨g, j, none⟩ = false := by simp [World.frozen?, h.blk]
theorem EncAt.keep (h : EncAt w g A c l) (hb : Below w.heap.size w w') : EncAt w' g A c l :=
  ⟨(hb.block g h.lt).trans h.blk, h.own.below hb fun k hk => (h.own.lt k hk).2⟩
/-- An append, and the store of what came of it. -/
theorem EncAt.put (h : EncAt w g A c l) (ha : AppAt w w' A A') {n : Nat} (hn : n = (l ++ b).length) (ho : Own w' (g + 1) 5 1 A' n c' (u8s (l ++ b))) :
    EncAt (w'.setCell ⟨g, 0, none⟩ (.slice A' n c')) g A' c' (l ++ b) ∧ EncR g w A (w'.setCell ⟨g, 0, none⟩ (.slice A' n c')) A' := by
  subst hn
  have hg : w'.heap[g]? = _ := (ha.grown.block g h.lt (fun e => by have := h.off g e.symm; omega)).trans h.blk
  have hs := heap_setCell_same w' g 0 _ _ (.slice A' (l ++ b).length c') hg
  refine ⟨⟨by rw [hs]; simp, ho.setFar (by simp) _⟩, ⟨ha.grown.os, ha.grown.tape, ha.grown.output, by have := ha.grown.size; simpa using this, fun k hk hkg hA => ?_, ?_⟩⟩
  · rw [heap_setCell_other w' _ k _ hkg]
    exact ha.grown.block k hk (fun e => hA e.symm)
  · rcases ha with ⟨h1, _⟩ | ⟨k, h1, h2, _⟩
    · exact .inl h1
    · exact .inr fun j hj => by rw [h1] at hj; injection hj with e; omega
theorem EncAt.mid (h : EncAt w g A c l) (ha : AppAt w w' A A') : w'.cell? ⟨g, 0, none⟩ = some (.slice A l.length c) ∧ w'.frozen? ⟨g, 0, none⟩ = false := by
  have hb : w'.heap[g]? = w.heap[g]? := ha.grown.block g h.lt (fun e => by have := h.off g e.symm; omega)
  exact ⟨(World.cell?_of_block hb).trans h.c0, (World.frozen?_of_block hb).trans (h.fz 0)⟩
end

theorem ptr_eqIn (d : Nat) (a : Addr) (w : World) : (Op.equalIn (d + 1) 57 (.pointer (some a)) (.pointer (some a))).run Tryd.prog w = .ok true w := by
  have hs : (sizeOf 59).run Tryd.prog w = .ok 2 w := Tryd.sizeOf59 w
  simp [Op.equalIn, run_underlying Tryd.underlying57, hs, sameAddr]
theorem ptr_neq (a : Addr) (w : World) : (binOp .neq 57 (.pointer (some a)) (.pointer (some a))).run Tryd.prog w = .ok (.bool false) w := by
  have he : (Op.equal 57 (.pointer (some a)) (.pointer (some a))).run Tryd.prog w = .ok true w := ptr_eqIn 9999 a w
  simp only [binOp]
  simp [he]
set_option maxRecDepth 20000 in
theorem ours_any {w : World} {g c : Nat} {A : Option Addr} {l : List Nat} (h : EncAt w g A c l) : Calls Tryd.prog 67 #[.pointer (some ⟨g, 0, none⟩)] w fun e w' => (∃ v, e = .returned v) ∧ w = w' := by
  have c1 := h.c1
  have hq := ptr_neq ⟨g, 0, none⟩
  clear h
  go_enter Tryd.func67, Tryd.ntmps67
  go_wp2_with fail
  go_end0
  exact ⟨⟨_, rfl⟩, rfl⟩

set_option maxRecDepth 20000 in
set_option maxHeartbeats 1000000 in
theorem raw_any {w : World} {g c : Nat} {A : Option Addr} {l : List Nat} (h : EncAt w g A c l) (b : List Nat) (A2 : Option Addr) (c2 n B2 : Nat) (hn : b.length = n) (hb : Byt w B2 A2 b) (hs : l.length + n ≤ 70368744177664) :
    Calls Tryd.prog 34 #[.pointer (some ⟨g, 0, none⟩), .slice A2 n c2] w fun e w' => (∃ v, e = .returned v) ∧ ∃ A' c', EncAt w' g A' c' (l ++ b) ∧ EncR g w A w' A' := by
  obtain ⟨nl, hnl⟩ : ∃ n, Hid (∀ _ : Unit, l.length = n) := ⟨_, Lib.hid fun _ => rfl⟩
  have c0 := h.c0
  have fz := h.fz 0
  rw [hnl.out ()] at c0 hs
  have h' := Lib.hid h
  have hb' := Lib.hid hb
  have hn' := Lib.hid hn
  clear h hb hn
  go_enter Tryd.func34, Tryd.ntmps34
  go_wp2_with fail
  refine (ours_any h'.out).mono ?_
  rintro e w' ⟨⟨v, rfl⟩, rfl⟩
  go_wp2_with (first | (at_builtin; refine wpList_appB elB _ rfl (.tmp 12) (.tmp 13) rfl rfl (by have := h'.out.own; rw [hnl.out ()] at this; exact this) rfl hn'.out hb'.out hs (Nat.succ_le_of_lt h'.out.lt) (nl + n) rfl ?_; intro A' c' w1 o1 at1 _; have hp := Lib.hid (h'.out.put at1 (by rw [List.length_append, hnl.out (), hn'.out]) o1); have hm := h'.out.mid at1; have m0 := hm.1; have m1 := hm.2; rw [hnl.out ()] at m0; clear hm o1 at1))
  go_end0
  exact ⟨⟨_, rfl⟩, A', c', hp.out.1, hp.out.2⟩
end Go.Proofs.YtkjndgapejbgcaaDoor

namespace Go.Proofs.YtkjndgapejbgcaaDoor
open Go.RowKit
set_option linter.unusedSimpArgs false

set_option maxRecDepth 100000 in
theorem or128 : ∀ y : Nat, y < 256 → bits .or .u8 (y : Int) 128 = ((y % 128 + 128 : Nat) : Int) := by decide
/-- A number's bytes, at most f of them. -/
def varF : Nat → Nat → List Nat
  | 0, _ => []
  | f + 1, v => if v < 128 then [v] else (v % 128 + 128) :: varF f (v / 128)
def varL (v : Nat) : List Nat := varF 10 v
theorem varF_length : ∀ f v, (varF f v).length ≤ f
  | 0, _ => Nat.le_refl _
  | f + 1, v => by
    unfold varF
    split
    · simp
    · have := varF_length f (v / 128)
      simp only [List.length_cons]
      omega
theorem EncAt.one {w w' : World} {g c c' n : Nat} {A A' : Option Addr} {l : List Nat} {y : Nat} (h : EncAt w g A c l) (ha : AppAt w w' A A') (hn : n = l.length + 1) (ho : Own w' (g + 1) 5 1 A' n c' (u8s l ++ #[Value.int .u8 (y : Int)].toList)) :
    EncAt (w'.setCell ⟨g, 0, none⟩ (.slice A' n c')) g A' c' (l ++ [y]) ∧ EncR g w A (w'.setCell ⟨g, 0, none⟩ (.slice A' n c')) A' :=
  h.put ha (by rw [List.length_append]; exact hn) (by rw [u8s_append]; exact ho)

set_option maxRecDepth 20000 in
set_option maxHeartbeats 1000000 in
theorem var_any {w : World} {g c : Nat} {A : Option Addr} {l : List Nat} (h : EncAt w g A c l) (v : Nat) (hv : v < 18446744073709551616) (hs : l.length ≤ 70368744177000) :
    Calls Tryd.prog 35 #[.pointer (some ⟨g, 0, none⟩), .int .u64 (v : Int)] w fun e w' => (∃ v, e = .returned v) ∧ ∃ A' c', EncAt w' g A' c' (l ++ varL v) ∧ EncR g w A w' A' := by
  have h' := Lib.hid h
  obtain ⟨V, hV⟩ : ∃ V, Hid (∀ _ : Unit, varL v = V) := ⟨_, Lib.hid fun _ => rfl⟩
  rw [hV.out ()]
  have hst : Hid ([] ++ varF 10 v = V ∧ v < 128 ^ 10) := Lib.hid ⟨hV.out (), by omega⟩
  clear h
  go_enter Tryd.func35, Tryd.ntmps35
  go_wp2_with fail
  refine (ours_any h'.out).mono ?_
  rintro e w' ⟨⟨v0, rfl⟩, rfl⟩
  go_wp2_with fail
  go_loopw [1] (fun vv wr => ∃ (f u : Nat) (acc : List Nat) (A' : Option Addr) (c' : Nat), vv = .int .u64 (u : Int) ∧ f ≤ 9 ∧ acc.length + f ≤ 9 ∧ Hid (acc ++ varF (f + 1) u = V ∧ u < 128 ^ (f + 1)) ∧ Hid (EncAt wr g A' c' (l ++ acc)) ∧ Hid (EncR g w A wr A')) (fun vv _ => (intOf vv).toNat)
  case atStart => exact ⟨9, v, [], A, c, rfl, by omega, by simp, hst, Lib.hid (by rw [List.append_nil]; exact h'.out), Lib.hid (EncR.refl g w A)⟩
  case round =>
    clear hst
    obtain ⟨f, u, acc, A1, c1, rfl, hf, hal, hu, he, hr⟩ := hrel
    obtain ⟨n, hn⟩ : ∃ n, Hid (∀ _ : Unit, (l ++ acc).length = n) := ⟨_, Lib.hid fun _ => rfl⟩
    have hnl : n ≤ 70368744177010 := by rw [← hn.out (), List.length_append]; omega
    have c0 := he.out.c0
    have fz := he.out.fz 0
    rw [hn.out ()] at c0
    have ho : Hid (Own wr (g + 1) 5 1 A1 n c1 (u8s (l ++ acc))) := Lib.hid (by have := he.out.own; rwa [hn.out ()] at this)
    have hgl := Lib.hid (Nat.succ_le_of_lt he.out.lt)
    by_cases hu128 : u < 128
    · have hu0 : (u : Int) < 128 := by omega
      have hm : (u : Int) % 256 = (u : Int) := by omega
      have hfin : Hid (acc ++ [u] = V) := Lib.hid (by have := hu.out.1; rwa [varF, if_pos hu128] at this)
      go_wp2_with (first | (at_builtin; refine wpList_app1 elB _ #[_] rfl rfl _ _ rfl rfl ho.out rfl (by intro u hu; simp at hu; subst hu; rfl) (by unfold maxLen; omega) (by omega) hgl.out (n + 1) rfl _ rfl ?_; intro A2 c2 w2 o2 at2 _; have hp := Lib.hid (he.out.one at2 (by rw [hn.out ()]) o2); have hm2 := he.out.mid at2; have m0 := hm2.1; have m1 := hm2.2; rw [hn.out ()] at m0; clear hm2 o2 at2 c0 fz))
      go_end0
      exact ⟨⟨_, rfl⟩, A2, c2, by rw [← hfin.out, ← List.append_assoc]; exact hp.out.1, hr.out.trans hp.out.2⟩
    · have hu0 : (128 : Int) ≤ (u : Int) := by omega
      obtain ⟨f, rfl⟩ : ∃ q, f = q + 1 := by
        refine ⟨f - 1, ?_⟩
        have := hu.out.2
        by_cases h0 : f = 0
        · subst h0; simp at this; omega
        · omega
      obtain ⟨y, hy⟩ : ∃ y, Hid (u % 128 + 128 = y) := ⟨_, Lib.hid rfl⟩
      have hor : bits .or .u8 ((u : Int) % 256) 128 = (y : Int) := by
        have := or128 (u % 256) (by omega)
        rw [← hy.out]
        rw [show ((u % 256 : Nat) : Int) = (u : Int) % 256 by omega, show u % 256 % 128 = u % 128 by omega] at this
        exact this
      have hnx : Hid ((acc ++ [y]) ++ varF (f + 1) (u / 128) = V ∧ u / 128 < 128 ^ (f + 1)) := Lib.hid ⟨by
          have := hu.out.1
          rw [varF, if_neg hu128, hy.out] at this
          rw [List.append_assoc]
          exact this, by
          have := hu.out.2
          rw [Nat.pow_succ, Nat.mul_comm] at this
          exact Nat.div_lt_of_lt_mul this⟩
      go_wp2_with (first | (at_builtin; refine wpList_app1 elB _ #[_] rfl rfl _ _ rfl rfl ho.out rfl (by intro u hu; simp at hu; subst hu; rfl) (by unfold maxLen; omega) (by omega) hgl.out (n + 1) rfl _ rfl ?_; intro A2 c2 w2 o2 at2 _; have hp := Lib.hid (he.out.one at2 (by rw [hn.out ()]) o2); have hm2 := he.out.mid at2; have m0 := hm2.1; have m1 := hm2.2; rw [hn.out ()] at m0; clear hm2 o2 at2 c0 fz))
      go_roundw
      case rel => exact ⟨f, u / 128, acc ++ [y], A2, c2, by go_num, by omega, by simp; omega, hnx, Lib.hid (by rw [← List.append_assoc]; exact hp.out.1), Lib.hid (hr.out.trans hp.out.2)⟩
      case measure => simp [intOf]; omega
end Go.Proofs.YtkjndgapejbgcaaDoor

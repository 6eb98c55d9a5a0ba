/- Names of items: IsName: a range over a string. Why a tree's items may not be. (Printed by tools/genitems.py.) Why an object may not be; its bytes: plain words. utf8.ValidString's answer is the document's Letters. No program is named here. The library's contract on utf8.ValidString at this seat's program. (Laid by tools/genlays.py.) -/
import Derived.Test.YtkjndgapejbgcaaDoorPkD14
import Derived.Lib.OthersKept
import Derived.Lib.RuneCountTail
import Derived.Laws.Strings3
import Derived.Test.YtkjndgapejbgcaaDoorPkD13
import Derived.BigQuiet
import Derived.Test.YtkjndgapejbgcaaDoorPkD12
import Derived.Test.YtkjndgapejbgcaaDoorPkD5
import Derived.Shelf.Unicode.ValidAny

namespace Go.Proofs.YtkjndgapejbgcaaDoor
open Go.RowKit
set_option linter.unusedSimpArgs false

theorem iterPos_of {w : World} {k : Nat} {s : ByteArray} {p : Nat} (h : w.heap[k]? = some (.stringIter s p)) : w.iterPos k = p := by simp [World.iterPos, h]
theorem decodeGo_at (s : ByteArray) (pos : Nat) (h : pos < s.size) : Lib.decodeGo (s.extract pos s.size) = Utf8.decode s pos := by
  unfold Lib.decodeGo
  rw [if_neg (by simp; omega), Lib.tail_decode]
  rfl
theorem width_pos (s : ByteArray) (pos : Nat) (h : pos < s.size) : 1 ≤ (Utf8.decode s pos).2 := by
  by_cases ha : (s[pos]'h).toNat < 128
  · rw [decode_ascii s pos h ha]
    exact Nat.le_refl _
  · exact (decode_high s pos h (by omega)).2

theorem nameD_bad {s : ByteArray} {f i : Nat} (h : i < s.size) (hb : (Utf8.decode s i).1 = 47 ∨ (Utf8.decode s i).1 = 0 ∨ ((Utf8.decode s i).1 = 65533 ∧ (Utf8.decode s i).2 = 1)) : nameD s (f + 1) i = false := by
  have h2 : ¬ ((Utf8.decode s i).1 = 47 ∨ (Utf8.decode s i).1 = 0) → badAt s i := fun h => by unfold badAt; omega
  unfold nameD
  split
  · split
    · rfl
    · rename_i h3
      simp [h2 h3]
  · omega
theorem nameD_good {s : ByteArray} {f i : Nat} (h : i < s.size) (hb : ¬ ((Utf8.decode s i).1 = 47 ∨ (Utf8.decode s i).1 = 0 ∨ ((Utf8.decode s i).1 = 65533 ∧ (Utf8.decode s i).2 = 1))) : nameD s (f + 1) i = nameD s f (i + (Utf8.decode s i).2) := by
  have h2 : ¬ badAt s i := fun h => by unfold badAt at h; omega
  have h3 : ¬ ((Utf8.decode s i).1 = 47 ∨ (Utf8.decode s i).1 = 0) := by omega
  simp [nameD, h, h2, h3]

set_option maxRecDepth 20000 in
set_option maxHeartbeats 2000000 in
theorem isName_any (s : ByteArray) (w : World) (hT : U8T w) : Calls Tryd.prog 10 #[.string s] w fun e w' => e = .returned (.bool (Fine s && nameD s s.size 0)) ∧ Below w.heap.size w w' := by
  obtain ⟨b1, hb1⟩ : ∃ b, dot1 s = b := ⟨_, rfl⟩
  obtain ⟨b2, hb2⟩ : ∃ b, dot2 s = b := ⟨_, rfl⟩
  unfold Fine
  rw [hb1, hb2]
  unfold dot1 at hb1
  unfold dot2 at hb2
  by_cases h0 : 1 ≤ s.size
  · have hne : s.toList.isEmpty = false := by
      rw [Lib.toList_data]
      cases h : s.data.toList with
      | nil => exact absurd h0 (by rw [Lib.size_eq, h]; simp)
      | cons _ _ => rfl
    by_cases h64 : s.size ≤ 64
    · cases b1
      · cases b2
        · have hR : Hid (∃ f, s.size ≤ 0 + f ∧ nameD s f 0 = nameD s s.size 0) := Lib.hid ⟨s.size, by omega, rfl⟩
          obtain ⟨R, hRR⟩ : ∃ p, nameD s s.size 0 = p := ⟨_, rfl⟩
          rw [hRR] at hR
          rw [hRR]
          have hT' := Lib.hid hT
          clear hRR hT
          go_enter Tryd.func10, Tryd.ntmps10
          go_wp2_with fail
          go_loopw [] (fun wr => ∃ pos : Nat, wr.heap[w.heap.size]? = some (.stringIter s pos) ∧ Hid (Below w.heap.size w wr) ∧ Hid (∃ f, s.size ≤ pos + f ∧ nameD s f pos = R)) (fun wr => s.size - wr.iterPos w.heap.size)
          case atStart => exact ⟨0, World.iter_heap w s 0, Lib.hid ((Below.refl _ _).alloc (Nat.le_refl _) _), hR⟩
          case round =>
            clear hR
            obtain ⟨pos, hit, hbw, hf⟩ := hrel
            have hpos0 := iterPos_of hit
            by_cases hp : pos < s.size
            · have hnx : ∀ ty, (Instr.next (.pointer (some ⟨w.heap.size, 0, none⟩)) true ty).run Tryd.prog wr = _ := fun ty => Lib.run_next_any_at wr w.heap.size s pos ty hit hp
              have hwd := width_pos s pos hp
              have hit2 := Lib.iterAt_heap wr w.heap.size s pos (pos + (Utf8.decode s pos).2) hit
              have hbw2 := Lib.hid (Lib.below_iterAt hbw.out (k := w.heap.size) (Nat.le_refl _) s (pos + (Utf8.decode s pos).2))
              obtain ⟨W1, hW1⟩ : ∃ W1, W1 = wr.iterAt w.heap.size s (pos + (Utf8.decode s pos).2) := ⟨_, rfl⟩
              rw [← hW1] at hnx hit2 hbw2
              have hrl := decode_le s pos
              obtain ⟨r, hr⟩ : ∃ r, (Utf8.decode s pos).1 = r := ⟨_, rfl⟩
              obtain ⟨n, hn⟩ : ∃ n, (Utf8.decode s pos).2 = n := ⟨_, rfl⟩
              have hD := fun W hW => utf8_DecodeRuneInString (s.extract pos s.size) W (u8t_keep (w' := W) hT'.out hW)
              rw [decodeGo_at s pos hp] at hD
              rw [hr] at hnx hrl hD
              rw [hn] at hwd hit2 hD
              have hs1 : Hid (r = 47 ∨ r = 0 ∨ (r = 65533 ∧ n = 1) → R = false) := Lib.hid fun h => by
                obtain ⟨f, h1, h2⟩ := hf.out
                obtain ⟨m, rfl⟩ : ∃ m, f = m + 1 := ⟨f - 1, by omega⟩
                rw [← h2, nameD_bad hp (by rw [hr, hn]; exact h)]
              have hs2 : Hid (¬ (r = 47 ∨ r = 0 ∨ (r = 65533 ∧ n = 1)) → ∃ f, s.size ≤ (pos + n) + f ∧ nameD s f (pos + n) = R) := Lib.hid fun h => by
                obtain ⟨f, h1, h2⟩ := hf.out
                obtain ⟨m, rfl⟩ : ∃ m, f = m + 1 := ⟨f - 1, by omega⟩
                rw [nameD_good hp (by rw [hr, hn]; exact h), hn] at h2
                exact ⟨m, by omega, h2⟩
              clear hf hW1 hit hr hn hbw
              have hD' := Lib.hid hD
              clear hD
              go_wp2_with (refine (hD'.out _ (by exact hbw2.out)).mono ?_; rintro e W2 ⟨rfl, hB2⟩)
              all_goals (try simp only [bne_iff_ne, bne_eq_false_iff_eq, beq_iff_eq, beq_eq_false_iff_ne, Bool.not_eq_false', Bool.not_eq_true', decide_eq_true_eq, decide_eq_false_iff_not, ne_eq, gt_iff_lt] at *)
              all_goals first
                | (go_ret; exact ⟨ret_bool (by rw [hs1.out (by omega)]; simp), hbw2.out⟩)
                | (go_ret; exact ⟨ret_bool (by rw [hs1.out (by omega)]; simp), hbw2.out.trans (hB2.mono hbw2.out.size)⟩)
                | (go_roundw
                   case rel =>
                     first
                       | exact ⟨pos + n, hit2, hbw2, Lib.hid (hs2.out (by omega))⟩
                       | exact ⟨pos + n, (hB2.block _ (lt_of_block hit2)).trans hit2, Lib.hid (hbw2.out.trans (hB2.mono hbw2.out.size)), Lib.hid (hs2.out (by omega))⟩
                   case measure =>
                     first
                       | (rw [iterPos_of hit2, hpos0]; omega)
                       | (rw [iterPos_of ((hB2.block _ (lt_of_block hit2)).trans hit2), hpos0]; omega))
            · have hR : R = true := by
                obtain ⟨f, h1, h2⟩ := hf.out
                rw [← h2, nameD_end s f pos hp]
              subst hR
              have hnx : ∀ ty, (Instr.next (.pointer (some ⟨w.heap.size, 0, none⟩)) true ty).run Tryd.prog wr = _ := fun ty => Lib.run_next_end_at wr w.heap.size s pos ty hit hp
              go_wp2_with fail
              go_ret
              exact ⟨ret_bool (by simp [h0, h64]), hbw.out⟩
        · go_enter Tryd.func10, Tryd.ntmps10
          go_wp2_with fail
          go_ret
          exact ⟨ret_bool (by simp), Below.refl _ _⟩
      · go_enter Tryd.func10, Tryd.ntmps10
        go_wp2_with fail
        go_ret
        exact ⟨ret_bool (by simp), Below.refl _ _⟩
    · go_enter Tryd.func10, Tryd.ntmps10
      go_wp2_with fail
      go_ret
      exact ⟨ret_bool (by simp [h64]), Below.refl _ _⟩
  · have he : s.toList.isEmpty = true := by
      rw [Lib.toList_data]
      have : s.data.toList = [] := List.eq_nil_of_length_eq_zero (by rw [← Lib.size_eq]; omega)
      rw [this]; rfl
    go_enter Tryd.func10, Tryd.ntmps10
    go_wp2_with fail
    go_ret
    exact ⟨ret_bool (by simp [h0]), Below.refl _ _⟩
end Go.Proofs.YtkjndgapejbgcaaDoor

namespace Go.Proofs.YtkjndgapejbgcaaDoor
open Go.RowKit
set_option linter.unusedSimpArgs false

def nameOk (s : ByteArray) : Bool := Fine s && nameD s s.size 0
/-- The text before or the same. -/
def leS (a b : ByteArray) : Bool := Op.bytesLess a.toList b.toList || a.toList == b.toList
def badMode (x : ItemT) : Prop := x.2.1 < 1 ∨ 4 < x.2.1 ∨ (x.2.1 = 3 ∧ ¬ x.2.2.1 = 0)
instance (x : ItemT) : Decidable (badMode x) := inferInstanceAs (Decidable (_ ∨ _ ∨ _))
def itemsE : Option ByteArray → List ItemT → Nat
  | _, [] => 0
  | p, x :: l => if nameOk x.1 = false then 43 else if (p.any fun q => leS x.1 q) = true then 44 else if badMode x then 45 else itemsE (some x.1) l
/-- The name ahead of place k. -/
def ahead (l : List ItemT) (k : Nat) : Option ByteArray := if k = 0 then none else some (l[k - 1]?.getD (⟨#[]⟩, 0, 0, ⟨zeros 32, by simp [zeros]⟩)).1
theorem itemsE_at {l : List ItemT} {k : Nat} (hk : k < l.length) : itemsE (ahead l k) (l.drop k) = if nameOk l[k].1 = false then 43 else if ((ahead l k).any fun q => leS l[k].1 q) = true then 44 else if badMode l[k] then 45 else itemsE (ahead l (k + 1)) (l.drop (k + 1)) := by
  rw [List.drop_eq_getElem_cons hk]
  have : ahead l (k + 1) = some l[k].1 := by simp [ahead, hk]
  rw [this]
  rfl
theorem ahead_zero (l : List ItemT) : ahead l 0 = none := rfl
theorem ahead_succ {l : List ItemT} {j : Nat} (hj : j < l.length) : ahead l (j + 1) = some l[j].1 := by simp [ahead, hj]
theorem leq_run (a b : ByteArray) (w : World) : (binOp .leq 9 (.string a) (.string b)).run Tryd.prog w = .ok (.bool (leS a b)) w := by rw [binOp_string_leq]; rfl

set_option maxRecDepth 100000 in
set_option maxHeartbeats 4000000 in
theorem items_any (w : World) (hT : U8T w) (l : List ItemT) (A : Option Addr) (n c : Nat) (hn0 : l.length = n) (hr : Row encI 35 w w.heap.size A l) (hl : n ≤ 140737488355328) :
    Calls Tryd.prog 65 #[.slice A n c] w fun e w' => e = .returned (.int .i64 (itemsE none l : Nat)) ∧ Below w.heap.size w w' := by
  have hi35 : (Tryd.prog.info? 50).map (·.size) = some 35 := by kernel_rfl
  have hi35' := Lib.hid hi35
  have zI := zeroI
  have hT' := Lib.hid hT
  have hr' := Lib.hid hr
  have hn := Lib.hid (fun _ : Unit => hn0)
  obtain ⟨R, hR⟩ : ∃ R, itemsE none l = R := ⟨_, rfl⟩
  have hR' : Hid (itemsE (ahead l 0) (l.drop 0) = R) := Lib.hid hR
  rw [hR]
  clear hi35 hT hr hn0 hR
  go_enter Tryd.func65, Tryd.ntmps65
  go_wp2_with fail
  go_loopw [7] (fun iv wr => ∃ k : Nat, k ≤ n ∧ iv = .int .i64 (k : Int) ∧ Hid (itemsE (ahead l k) (l.drop k) = R) ∧ Hid (Below w.heap.size w wr)) (fun iv _ => n - (intOf iv).toNat)
  case atStart => exact ⟨0, by omega, rfl, hR', Lib.hid (Below.refl _ _)⟩
  case round =>
    clear hR'
    obtain ⟨k, hk, rfl, hR, hB⟩ := hrel
    by_cases hlt : k < n
    · have hkx : k < l.length := by rw [hn.out ()]; exact hlt
      obtain ⟨b, off, rfl, hb, hc⟩ := Row.elem (Rd.below hr'.out hB.out) encI_length (by decide) hkx
      have hRk := hR.out
      rw [itemsE_at hkx] at hRk
      obtain ⟨x, hx⟩ : ∃ x, l[k] = x := ⟨_, rfl⟩
      rw [hx] at hc hRk
      obtain ⟨nm, hnm⟩ : ∃ y, x.1 = y := ⟨_, rfl⟩
      obtain ⟨mo, hmo⟩ : ∃ y, x.2.1 = y := ⟨_, rfl⟩
      obtain ⟨z, hz⟩ : ∃ y, x.2.2.1 = y := ⟨_, rfl⟩
      have hrg := Lib.hid (show wr.rangeAt b (off + k * 35) (encI x) from fun j v hv => hc j v hv)
      have hnw := row_new wr 50 (encI (⟨#[]⟩, 0, 0, zK)).toArray (encI x).toArray
      have hN := Lib.hid hnw.1
      have hNb := Lib.hid (hnw.2 _ (show w.heap.size ≤ wr.heap.size from hB.out.size))
      have hxs' := Lib.hid (show (encI x).toArray.size = 35 by simp [encI_length])
      have hzs' := Lib.hid (show (encI (⟨#[]⟩, 0, 0, zK)).toArray.size = 35 by simp [encI_length])
      have hone' := Lib.hid (show (encI x).toArray.all (·.oneCell') = true from all_oneCell_toArray (encI_one x))
      have h0' := Lib.hid (show (encI x)[0]? = some (.string nm) by simp [encI, hnm])
      have h1' := Lib.hid (show (encI x)[1]? = some (.int .u8 (mo : Int)) by simp [encI, hmo])
      have h2' := Lib.hid (show (encI x)[2]? = some (.int .u64 (z : Int)) by simp [encI, hz])
      have hbm : badMode x = (mo < 1 ∨ 4 < mo ∨ (mo = 3 ∧ ¬ z = 0)) := by unfold badMode; rw [hmo, hz]
      rw [hnm] at hRk
      obtain ⟨ok, hok⟩ : ∃ ok, nameOk nm = ok := ⟨_, rfl⟩
      rw [hok] at hRk
      have hnok : Hid ((Fine nm && nameD nm nm.size 0) = ok) := Lib.hid hok
      cases ok with
      | false =>
        have hR43 : 43 = R := by simpa using hRk
        subst hR43
        clear hRk hbm hmo hz hnm hok hc hnw hx hkx hR
        go_wp2_with (first
            | (refine wpList_load_mid rfl 50 _ rfl b (off + k * 35) rfl (encI x) _ hrg.out Tryd.underlying50 rfl (by rw [encI_length]; exact hi35'.out) ?_)
            | (refine wpList_store_row rfl 50 _ _ rfl wr.heap.size (encI x).toArray rfl rfl 50 _ (heap_alloc_new wr _) (by rw [hxs'.out]; exact hi35'.out) (by rw [hxs'.out, hzs'.out]) hone'.out ?_
               generalize ((wr.alloc (.cells (encI (⟨#[]⟩, 0, 0, zK)).toArray 50)).setRow wr.heap.size (encI x).toArray) = w2 at hN hNb ⊢
               have c0 : w2.cell? ⟨wr.heap.size, 0, none⟩ = some (.string nm) := (cell_of_row _ _ _ _ _ _ hN.out).trans (by simpa using h0'.out))
            | (go_at_call 10
               refine (isName_any nm w2 (u8t_keep hT'.out (hB.out.trans hNb.out))).mono ?_
               rintro e w3 ⟨rfl, b3⟩
               rw [hnok.out]
               have hN3 := Lib.hid ((b3.block wr.heap.size (lt_of_block hN.out)).trans hN.out)
               have hB3 := Lib.hid ((hB.out.trans hNb.out).trans (b3.mono (Nat.le_trans hB.out.size (show wr.heap.size ≤ w2.heap.size from Nat.le_of_lt (lt_of_block hN.out)))))
               have d0 : w3.cell? ⟨wr.heap.size, 0, none⟩ = some (.string nm) := (cell_of_row _ _ _ _ _ _ hN3.out).trans (by simpa using h0'.out)
               have d1 : w3.cell? ⟨wr.heap.size, 1, none⟩ = some (.int .u8 (mo : Int)) := (cell_of_row _ _ _ _ _ _ hN3.out).trans (by simpa using h1'.out)
               have d2 : w3.cell? ⟨wr.heap.size, 2, none⟩ = some (.int .u64 (z : Int)) := (cell_of_row _ _ _ _ _ _ hN3.out).trans (by simpa using h2'.out)
               clear b3 c0))
        go_ret
        exact ⟨rfl, hB3.out⟩
      | true =>
        rw [if_neg (by decide)] at hRk
        rcases Nat.eq_zero_or_pos k with hk0 | hk0
        · subst hk0
          rw [ahead_zero, Option.any_none, if_neg (by decide)] at hRk
          have hbad : Hid ((mo < 1 ∨ 4 < mo ∨ (mo = 3 ∧ ¬ z = 0)) → R = 45) := Lib.hid fun h => by rw [if_pos (by rw [hbm]; exact h)] at hRk; exact hRk.symm
          have hgood : Hid (¬ (mo < 1 ∨ 4 < mo ∨ (mo = 3 ∧ ¬ z = 0)) → itemsE (ahead l (0 + 1)) (l.drop (0 + 1)) = R) := Lib.hid fun h => by rw [if_neg (by rw [hbm]; exact h)] at hRk; exact hRk
          clear hRk hbm hmo hz hnm hok hc hnw hx hkx hR
          go_wp2_with (first
            | (refine wpList_load_mid rfl 50 _ rfl b (off + 0 * 35) rfl (encI x) _ hrg.out Tryd.underlying50 rfl (by rw [encI_length]; exact hi35'.out) ?_)
            | (refine wpList_store_row rfl 50 _ _ rfl wr.heap.size (encI x).toArray rfl rfl 50 _ (heap_alloc_new wr _) (by rw [hxs'.out]; exact hi35'.out) (by rw [hxs'.out, hzs'.out]) hone'.out ?_
               generalize ((wr.alloc (.cells (encI (⟨#[]⟩, 0, 0, zK)).toArray 50)).setRow wr.heap.size (encI x).toArray) = w2 at hN hNb ⊢
               have c0 : w2.cell? ⟨wr.heap.size, 0, none⟩ = some (.string nm) := (cell_of_row _ _ _ _ _ _ hN.out).trans (by simpa using h0'.out))
            | (go_at_call 10
               refine (isName_any nm w2 (u8t_keep hT'.out (hB.out.trans hNb.out))).mono ?_
               rintro e w3 ⟨rfl, b3⟩
               rw [hnok.out]
               have hN3 := Lib.hid ((b3.block wr.heap.size (lt_of_block hN.out)).trans hN.out)
               have hB3 := Lib.hid ((hB.out.trans hNb.out).trans (b3.mono (Nat.le_trans hB.out.size (show wr.heap.size ≤ w2.heap.size from Nat.le_of_lt (lt_of_block hN.out)))))
               have d0 : w3.cell? ⟨wr.heap.size, 0, none⟩ = some (.string nm) := (cell_of_row _ _ _ _ _ _ hN3.out).trans (by simpa using h0'.out)
               have d1 : w3.cell? ⟨wr.heap.size, 1, none⟩ = some (.int .u8 (mo : Int)) := (cell_of_row _ _ _ _ _ _ hN3.out).trans (by simpa using h1'.out)
               have d2 : w3.cell? ⟨wr.heap.size, 2, none⟩ = some (.int .u64 (z : Int)) := (cell_of_row _ _ _ _ _ _ hN3.out).trans (by simpa using h2'.out)
               clear b3 c0))
          go_quiet (fail)
          go_wp2_with fail
          all_goals (try simp only [bne_iff_ne, bne_eq_false_iff_eq, beq_iff_eq, beq_eq_false_iff_ne, Bool.not_eq_false', Bool.not_eq_true', decide_eq_true_eq, decide_eq_false_iff_not, ne_eq, gt_iff_lt] at *)
          all_goals first
            | (go_ret; exact ⟨ret_int (by rw [hbad.out (by omega)]; rfl), below_drewN hB3.out _⟩)
            | (go_roundw
               case rel => exact ⟨0 + 1, by omega, by go_num, Lib.hid (hgood.out (by omega)), Lib.hid (below_drewN hB3.out _)⟩
               case measure => simp [intOf]; omega)
        · obtain ⟨j, hj⟩ : ∃ j, j + 1 = k := ⟨k - 1, by omega⟩
          have hjx : j < l.length := by omega
          obtain ⟨b2, off2, e2, _, hcj⟩ := Row.elem hr'.out encI_length (by decide) hjx
          obtain ⟨pn, hpn⟩ : ∃ y, (l[j]).1 = y := ⟨_, rfl⟩
          have hcp0 := hcj 0 (.string pn) (by simp [encI, hpn])
          injection e2 with e2
          injection e2 with e3 e4
          subst e3 e4
          have hcp : Hid (w.cell? ⟨b, off + j * 35, none⟩ = some (.string pn)) := Lib.hid hcp0
          rw [show ahead l k = some l[j].1 from hj ▸ ahead_succ hjx, Option.any_some, hpn] at hRk
          obtain ⟨LE, hLE⟩ : ∃ q, leS nm pn = q := ⟨_, rfl⟩
          rw [hLE] at hRk
          have hq : ∀ w, (binOp .leq 9 (.string nm) (.string pn)).run Tryd.prog w = .ok (.bool LE) w := fun w => by rw [← hLE]; exact leq_run nm pn w
          have hq2 : (Op.bytesLess nm.toList pn.toList || nm.toList == pn.toList) = LE := hLE
          have hw1 : IntKind.i64.wrap ((k : Int) - 1) = (j : Int) := by rw [IntKind.wrap_i64]; omega
          clear hcj hcp0 hjx hpn
          cases LE with
          | true =>
            have hR44 : 44 = R := by simpa using hRk
            subst hR44
            clear hRk hbm hmo hz hnm hok hc hnw hx hkx hR hLE
            go_wp2_with (first
            | (refine wpList_load_mid rfl 50 _ rfl b (off + k * 35) rfl (encI x) _ hrg.out Tryd.underlying50 rfl (by rw [encI_length]; exact hi35'.out) ?_)
            | (refine wpList_store_row rfl 50 _ _ rfl wr.heap.size (encI x).toArray rfl rfl 50 _ (heap_alloc_new wr _) (by rw [hxs'.out]; exact hi35'.out) (by rw [hxs'.out, hzs'.out]) hone'.out ?_
               generalize ((wr.alloc (.cells (encI (⟨#[]⟩, 0, 0, zK)).toArray 50)).setRow wr.heap.size (encI x).toArray) = w2 at hN hNb ⊢
               have c0 : w2.cell? ⟨wr.heap.size, 0, none⟩ = some (.string nm) := (cell_of_row _ _ _ _ _ _ hN.out).trans (by simpa using h0'.out))
            | (go_at_call 10
               refine (isName_any nm w2 (u8t_keep hT'.out (hB.out.trans hNb.out))).mono ?_
               rintro e w3 ⟨rfl, b3⟩
               rw [hnok.out]
               have hN3 := Lib.hid ((b3.block wr.heap.size (lt_of_block hN.out)).trans hN.out)
               have hB3 := Lib.hid ((hB.out.trans hNb.out).trans (b3.mono (Nat.le_trans hB.out.size (show wr.heap.size ≤ w2.heap.size from Nat.le_of_lt (lt_of_block hN.out)))))
               have d0 : w3.cell? ⟨wr.heap.size, 0, none⟩ = some (.string nm) := (cell_of_row _ _ _ _ _ _ hN3.out).trans (by simpa using h0'.out)
               have d1 : w3.cell? ⟨wr.heap.size, 1, none⟩ = some (.int .u8 (mo : Int)) := (cell_of_row _ _ _ _ _ _ hN3.out).trans (by simpa using h1'.out)
               have d2 : w3.cell? ⟨wr.heap.size, 2, none⟩ = some (.int .u64 (z : Int)) := (cell_of_row _ _ _ _ _ _ hN3.out).trans (by simpa using h2'.out)
               have dp : w3.cell? ⟨b, off + j * 35, none⟩ = some (.string pn) := (hB3.out.cell hb).trans hcp.out
               clear b3 c0))
            go_quiet (fail)
            go_wp2_with fail
            go_ret
            exact ⟨rfl, below_drewN hB3.out _⟩
          | false =>
            rw [if_neg (by decide)] at hRk
            have hbad : Hid ((mo < 1 ∨ 4 < mo ∨ (mo = 3 ∧ ¬ z = 0)) → R = 45) := Lib.hid fun h => by rw [if_pos (by rw [hbm]; exact h)] at hRk; exact hRk.symm
            have hgood : Hid (¬ (mo < 1 ∨ 4 < mo ∨ (mo = 3 ∧ ¬ z = 0)) → itemsE (ahead l (k + 1)) (l.drop (k + 1)) = R) := Lib.hid fun h => by rw [if_neg (by rw [hbm]; exact h)] at hRk; exact hRk
            clear hRk hbm hmo hz hnm hok hc hnw hx hkx hR hLE
            go_wp2_with (first
            | (refine wpList_load_mid rfl 50 _ rfl b (off + k * 35) rfl (encI x) _ hrg.out Tryd.underlying50 rfl (by rw [encI_length]; exact hi35'.out) ?_)
            | (refine wpList_store_row rfl 50 _ _ rfl wr.heap.size (encI x).toArray rfl rfl 50 _ (heap_alloc_new wr _) (by rw [hxs'.out]; exact hi35'.out) (by rw [hxs'.out, hzs'.out]) hone'.out ?_
               generalize ((wr.alloc (.cells (encI (⟨#[]⟩, 0, 0, zK)).toArray 50)).setRow wr.heap.size (encI x).toArray) = w2 at hN hNb ⊢
               have c0 : w2.cell? ⟨wr.heap.size, 0, none⟩ = some (.string nm) := (cell_of_row _ _ _ _ _ _ hN.out).trans (by simpa using h0'.out))
            | (go_at_call 10
               refine (isName_any nm w2 (u8t_keep hT'.out (hB.out.trans hNb.out))).mono ?_
               rintro e w3 ⟨rfl, b3⟩
               rw [hnok.out]
               have hN3 := Lib.hid ((b3.block wr.heap.size (lt_of_block hN.out)).trans hN.out)
               have hB3 := Lib.hid ((hB.out.trans hNb.out).trans (b3.mono (Nat.le_trans hB.out.size (show wr.heap.size ≤ w2.heap.size from Nat.le_of_lt (lt_of_block hN.out)))))
               have d0 : w3.cell? ⟨wr.heap.size, 0, none⟩ = some (.string nm) := (cell_of_row _ _ _ _ _ _ hN3.out).trans (by simpa using h0'.out)
               have d1 : w3.cell? ⟨wr.heap.size, 1, none⟩ = some (.int .u8 (mo : Int)) := (cell_of_row _ _ _ _ _ _ hN3.out).trans (by simpa using h1'.out)
               have d2 : w3.cell? ⟨wr.heap.size, 2, none⟩ = some (.int .u64 (z : Int)) := (cell_of_row _ _ _ _ _ _ hN3.out).trans (by simpa using h2'.out)
               have dp : w3.cell? ⟨b, off + j * 35, none⟩ = some (.string pn) := (hB3.out.cell hb).trans hcp.out
               clear b3 c0))
            go_quiet (fail)
            go_wp2_with fail
            all_goals (try simp only [bne_iff_ne, bne_eq_false_iff_eq, beq_iff_eq, beq_eq_false_iff_ne, Bool.not_eq_false', Bool.not_eq_true', decide_eq_true_eq, decide_eq_false_iff_not, ne_eq, gt_iff_lt] at *)
            all_goals first
              | (go_ret; exact ⟨ret_int (by rw [hbad.out (by omega)]; rfl), below_drewN hB3.out _⟩)
              | (go_roundw
                 case rel => exact ⟨k + 1, by omega, by go_num, Lib.hid (hgood.out (by omega)), Lib.hid (below_drewN hB3.out _)⟩
                 case measure => simp [intOf]; omega)
    · obtain rfl : k = n := by omega
      have hRn : 0 = R := by
        have := hR.out
        rw [List.drop_eq_nil_of_le (by rw [hn.out ()]; exact Nat.le_refl _)] at this
        exact this
      subst hRn
      go_wp2_with fail
      go_ret
      exact ⟨rfl, hB.out⟩
end Go.Proofs.YtkjndgapejbgcaaDoor

namespace Go.Proofs.YtkjndgapejbgcaaDoor
open Go.RowKit
set_option linter.unusedSimpArgs false

/-- Is a field of another kind not nought? -/
def forB (o : ObjT) : Bool := !sameO (stripO o) oZ
def longB (o : ObjT) : Bool := decide (128 < o.parts.length) || decide (128 < o.items.length) || decide (127 < o.parents.length)
def noteB (o : ObjT) : Bool := decide (1024 < o.note.size) || !lettersD o.note o.note.size 0
def kindE (o : ObjT) : Nat :=
  if o.kind = 2 then (if partsB 0 o.parts then 0 else 47) else if o.kind = 3 then itemsE none o.items else if o.kind = 4 then (if noteB o then 46 else 0) else 0
def mayE (o : ObjT) : Nat := if o.kind < 1 ∨ 4 < o.kind then 40 else if forB o then 41 else if longB o then 42 else kindE o

def oneP (x : PartT) : List Nat := x.1.1 ++ varL x.2
def oneI (x : ItemT) : List Nat := varL x.1.size ++ strL x.1 ++ [x.2.1] ++ varL x.2.2.1 ++ x.2.2.2.1
def oneK (x : Key32) : List Nat := x.1
def layT (o : ObjT) : List Nat := o.tree.1 ++ varL o.parents.length ++ o.parents.flatMap oneK ++ fixF 8 (o.time % 18446744073709551616).toNat ++ (varL o.note.size ++ strL o.note)
/-- An object's bytes. -/
def layL (o : ObjT) : List Nat :=
  [o.kind] ++ (if o.kind = 1 then o.data else if o.kind = 2 then varL o.parts.length ++ o.parts.flatMap oneP else if o.kind = 3 then varL o.items.length ++ o.items.flatMap oneI else if o.kind = 4 then layT o else [])
def encE (o : ObjT) : Nat := if mayE o ≠ 0 then mayE o else if 8192 ≤ o.data.length then 48 else if 8192 < (layL o).length then 48 else 0
/-- What Encode tells. -/
def encL (o : ObjT) : List Nat := if encE o = 0 then layL o else []

theorem decide_list_nil {α : Type} [DecidableEq α] (l : List α) : decide (l = []) = decide (l.length = 0) := by
  cases l <;> simp
/-- The document's word for it. -/
def refFor (o : ObjT) : Bool :=
  (decide (o.kind ≠ 1) && decide (0 < o.data.length)) || (decide (o.kind ≠ 2) && decide (0 < o.parts.length)) || (decide (o.kind ≠ 3) && decide (0 < o.items.length)) ||
    (decide (o.kind ≠ 4) && (!decide (o.tree = zK) || decide (0 < o.parents.length) || !decide (o.time = 0) || !decide (o.note = ⟨#[]⟩)))
theorem nil_pos {α : Type} [DecidableEq α] (l : List α) : decide (l = []) = !decide (0 < l.length) := by
  cases l <;> simp
theorem forB_eq (o : ObjT) : forB o = refFor o := by
  unfold forB refFor stripO sameO oZ
  by_cases h1 : o.kind = 1
  · rw [if_pos h1]
    simp [h1, nil_pos]
    cases decide (0 < o.parts.length) <;> cases decide (0 < o.items.length) <;> cases decide (o.tree = zK) <;> cases decide (0 < o.parents.length) <;> cases decide (o.time = 0) <;> simp
  · rw [if_neg h1]
    by_cases h2 : o.kind = 2
    · rw [if_pos h2]
      simp [h2, nil_pos]
      cases decide (0 < o.data.length) <;> cases decide (0 < o.items.length) <;> cases decide (o.tree = zK) <;> cases decide (0 < o.parents.length) <;> cases decide (o.time = 0) <;> simp
    · rw [if_neg h2]
      by_cases h3 : o.kind = 3
      · rw [if_pos h3]
        simp [h3, nil_pos]
        cases decide (0 < o.data.length) <;> cases decide (0 < o.parts.length) <;> cases decide (o.tree = zK) <;> cases decide (0 < o.parents.length) <;> cases decide (o.time = 0) <;> simp
      · rw [if_neg h3]
        by_cases h4 : o.kind = 4
        · rw [if_pos h4]
          simp [h4, nil_pos]
        · rw [if_neg h4]
          simp [h1, h2, h3, h4, nil_pos]
          cases decide (0 < o.data.length) <;> cases decide (0 < o.parts.length) <;> cases decide (0 < o.items.length) <;> cases decide (o.tree = zK) <;> cases decide (0 < o.parents.length) <;> cases decide (o.time = 0) <;> simp

/-- The document's reckoning. -/
def kidsN (o : ObjT) : Nat := if o.kind = 2 then o.parts.length else if o.kind = 3 then o.items.length else if o.kind = 4 then 1 + o.parents.length else 0
def chkE (o : ObjT) : Nat :=
  if o.kind < 1 ∨ 4 < o.kind then 40 else if refFor o then 41 else if 128 < kidsN o then 42 else if kindE o ≠ 0 then kindE o else if 8192 < o.data.length ∨ 8192 < (layL o).length then 48 else 0
theorem refFor_own (o : ObjT) (h : refFor o = false) : (o.kind ≠ 1 → o.data = []) ∧ (o.kind ≠ 2 → o.parts = []) ∧ (o.kind ≠ 3 → o.items = []) ∧ (o.kind ≠ 4 → o.parents = []) := by
  unfold refFor at h
  simp only [Bool.or_eq_false_iff, Bool.and_eq_false_iff, decide_eq_false_iff_not, Nat.not_lt, Nat.le_zero, List.length_eq_zero_iff] at h
  obtain ⟨⟨⟨h1, h2⟩, h3⟩, h4⟩ := h
  refine ⟨fun h => ?_, fun h => ?_, fun h => ?_, fun h => ?_⟩
  · rcases h1 with h1 | h1
    · exact absurd h h1
    · exact h1
  · rcases h2 with h1 | h1
    · exact absurd h h1
    · exact h1
  · rcases h3 with h1 | h1
    · exact absurd h h1
    · exact h1
  · rcases h4 with h1 | h1
    · exact absurd h h1
    · exact h1.1.1.2
theorem encE_eq (o : ObjT) : encE o = chkE o := by
  unfold encE chkE mayE
  by_cases hk : o.kind < 1 ∨ 4 < o.kind
  · simp only [if_pos hk]; rfl
  · simp only [if_neg hk]
    rw [forB_eq]
    cases hr : refFor o with
    | true => rfl
    | false =>
      obtain ⟨h1, h2, h3, h4⟩ := refFor_own o hr
      have hlong : longB o = decide (128 < kidsN o) := by
        unfold longB kidsN
        by_cases k2 : o.kind = 2
        · rw [if_pos k2, h3 (by omega), h4 (by omega)]; simp
        · rw [if_neg k2, h2 k2]
          by_cases k3 : o.kind = 3
          · rw [if_pos k3, h4 (by omega)]; simp
          · rw [if_neg k3, h3 k3]
            by_cases k4 : o.kind = 4
            · rw [if_pos k4]
              simp only [List.length_nil, Nat.not_lt_zero, decide_false, Bool.false_or]
              rw [decide_eq_decide]
              omega
            · rw [if_neg k4, h4 k4]; simp
      rw [hlong]
      simp only [Bool.false_eq_true, if_false]
      by_cases hl : 128 < kidsN o
      · simp [hl]
      · simp only [hl, decide_false, Bool.false_eq_true, if_false]
        by_cases hke : kindE o = 0
        · simp only [hke, ne_eq, not_true_eq_false, if_false]
          have hd : 8192 ≤ o.data.length → 8192 < (layL o).length := fun h => by
            by_cases k1 : o.kind = 1
            · unfold layL
              rw [if_pos k1, List.length_append]
              simp
              omega
            · rw [h1 k1] at h
              simp at h
          by_cases hx : 8192 < (layL o).length
          · rw [if_pos hx, if_pos (Or.inr hx)]
            simp
          · rw [if_neg (fun h => hx (hd h)), if_neg hx, if_neg (fun h => hx (h.elim (fun h => hd (by omega)) id))]
        · rw [if_pos hke, if_pos hke]
end Go.Proofs.YtkjndgapejbgcaaDoor

namespace Go.Proofs.YtkjndgapejbgcaaDoor

theorem dec_drop (s : ByteArray) (i : Nat) : Lib.decodeL (s.data.toList.drop i) = Utf8.decode s i := by
  rw [Lib.decodeL_N, Lib.decode_at]
  have hg : ∀ j, (s.data.toList.drop i).getD j 0 = s.get! (i + j) := fun j => by
    rw [← Lib.getD_get!', List.getD_eq_getElem?_getD, List.getElem?_drop, ← List.getD_eq_getElem?_getD]
  rw [hg, hg, hg, hg, List.length_drop]
  rfl
theorem valid_letters (s : ByteArray) : ∀ f i, s.size ≤ i + f → Lib.validD (s.data.toList.drop i) = lettersD s f i
  | 0, i, h => by
    rw [List.drop_eq_nil_of_le (by rw [Array.length_toList]; exact h)]
    rfl
  | f + 1, i, h => by
    unfold lettersD
    by_cases hi : i < s.size
    · have hne : s.data.toList.drop i ≠ [] := by
        intro e
        have := congrArg List.length e
        rw [List.length_drop, Array.length_toList] at this
        have hs : s.data.size = s.size := rfl
        simp at this
        omega
      rw [Lib.validD_step _ hne, dec_drop, if_pos hi]
      have hb : badAt s i ↔ (Utf8.decode s i).1 = 65533 ∧ (Utf8.decode s i).2 = 1 := Iff.rfl
      by_cases hbad : badAt s i
      · rw [if_pos hbad, if_pos (hb.1 hbad)]
      · rw [if_neg hbad, if_neg (fun h => hbad (hb.2 h)), List.drop_drop]
        have := (inner_high s i hi hbad).1
        exact valid_letters s f _ (by omega)
    · rw [if_neg hi, List.drop_eq_nil_of_le (by rw [Array.length_toList]; have hs : s.data.size = s.size := rfl; omega)]
      rfl
theorem valid_all (s : ByteArray) : Lib.validD s.data.toList = lettersD s s.size 0 := by
  have := valid_letters s s.size 0 (by omega)
  rwa [List.drop_zero] at this
end Go.Proofs.YtkjndgapejbgcaaDoor

namespace Go.Proofs.YtkjndgapejbgcaaDoor
open Go.RowKit
def ren196 : Go.Shelf.Ren := ⟨fun | 196 => 66 | 259 => 102 | n => n, fun | 0 => 0 | 3 => 3 | 4 => 4 | 5 => 5 | 9 => 9 | 12 => 12 | 46 => 95 | 53 => 45 | 119 => 126 | 138 => 128 | 139 => 129 | n => n, fun | 3 => 2 | 4 => 3 | n => n⟩
theorem lays196 : Go.Proofs.Lays.n196 Tryd.prog ren196 := {
  mixed := by kernel_rfl
  f196 := Tryd.func66.trans (congrArg some (by kernel_rfl))
  f259 := Tryd.func102.trans (congrArg some (by kernel_rfl))
  t0 := Tryd.underlying0
  a0 := Tryd.isAgg0
  z0 := Tryd.sizeOf0
  v0 := Tryd.zeroValue0
  t3 := Tryd.underlying3
  a3 := Tryd.isAgg3
  z3 := Tryd.sizeOf3
  v3 := Tryd.zeroValue3
  t4 := Tryd.underlying4
  a4 := Tryd.isAgg4
  z4 := Tryd.sizeOf4
  v4 := Tryd.zeroValue4
  t5 := Tryd.underlying5
  a5 := Tryd.isAgg5
  z5 := Tryd.sizeOf5
  v5 := Tryd.zeroValue5
  t9 := Tryd.underlying9
  a9 := Tryd.isAgg9
  z9 := Tryd.sizeOf9
  v9 := Tryd.zeroValue9
  t12 := Tryd.underlying12
  a12 := Tryd.isAgg12
  z12 := Tryd.sizeOf12
  v12 := Tryd.zeroValue12
  t46 := Tryd.underlying95
  a46 := Tryd.isAgg95
  z46 := Tryd.sizeOf95
  v46 := Tryd.zeroValue95
  t53 := Tryd.underlying45
  a53 := Tryd.isAgg45
  z53 := Tryd.sizeOf45
  v53 := Tryd.zeroValue45
  t119 := Tryd.underlying126
  a119 := Tryd.isAgg126
  z119 := Tryd.sizeOf126
  t138 := Tryd.underlying128
  a138 := Tryd.isAgg128
  z138 := Tryd.sizeOf128
  v138 := Tryd.zeroValue128
  t139 := Tryd.underlying129
  a139 := Tryd.isAgg129
  z139 := Tryd.sizeOf129
  v139 := Tryd.zeroValue129
  g3 := by kernel_rfl
  g4 := by kernel_rfl
  }
theorem valid_any (s : ByteArray) (w : World) (hs : s.size ≤ 9223372036854775807) (hT : U8T w) :
    Calls Tryd.prog 66 #[.string s] w fun e w' => e = .returned (.bool (lettersD s s.size 0)) ∧ Below w.heap.size w w' := by
  rw [← valid_all s]
  exact Any.utf8_ValidString lays196 s w hs hT
end Go.Proofs.YtkjndgapejbgcaaDoor

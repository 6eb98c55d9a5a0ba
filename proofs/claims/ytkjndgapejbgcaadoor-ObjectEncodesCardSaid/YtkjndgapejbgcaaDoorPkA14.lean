/- An encoder's further methods: the first Put on a fresh one, Text, Bytes. Why an object may not be; its bytes: plain words. utf8.ValidString's answer is the document's Letters. No program is named here. The library's contract on utf8.ValidString at this seat's program. (Laid by tools/genlays.py.) -/
import Derived.Test.YtkjndgapejbgcaaDoorPkA13
import Derived.Test.YtkjndgapejbgcaaDoorPkA9
import Derived.Test.YtkjndgapejbgcaaDoorPkA12
import Derived.Test.YtkjndgapejbgcaaDoorPkA10
import Derived.Shelf.Unicode.ValidAny
import Derived.Test.YtkjndgapejbgcaaDoorPkA11

namespace Go.Proofs.YtkjndgapejbgcaaDoor
open Go.RowKit
set_option linter.unusedSimpArgs false

/-- A fresh encoder. -/
structure EncZ (w : World) (g : Nat) : Prop where
  blk : w.heap[g]? = some (.cells #[.slice none 0 0, .pointer none] 59 (0, 0))
theorem EncZ.c0 {w : World} {g : Nat} (h : EncZ w g) : w.cell? ⟨g, 0, none⟩ = some (.slice none 0 0) := cell_of_row _ _ _ _ _ _ h.blk
theorem EncZ.c1 {w : World} {g : Nat} (h : EncZ w g) : w.cell? ⟨g, 1, none⟩ = some (.pointer none) := cell_of_row _ _ _ _ _ _ h.blk
theorem EncZ.fz {w : World} {g : Nat} (h : EncZ w g) (j : Nat) : w.frozen? ⟨g, j, none⟩ = false := by simp [World.frozen?, h.blk]
theorem EncZ.own {w : World} {g : Nat} (h : EncZ w g) : EncAt ((w.setCell ⟨g, 0, none⟩ (.slice none 0 0)).setCell ⟨g, 1, none⟩ (.pointer (some ⟨g, 0, none⟩))) g none 0 [] ∧
    EncR g w none ((w.setCell ⟨g, 0, none⟩ (.slice none 0 0)).setCell ⟨g, 1, none⟩ (.pointer (some ⟨g, 0, none⟩))) none := by
  have h1 := heap_setCell_same w g 0 _ _ (.slice none 0 0) h.blk
  have h2 := heap_setCell_same _ g 1 _ _ (.pointer (some ⟨g, 0, none⟩)) h1
  refine ⟨⟨by rw [h2]; simp, Own.nil _ _ _ _⟩, ⟨rfl, rfl, rfl, by simp, fun k hk hkg _ => ?_, .inl rfl⟩⟩
  rw [heap_setCell_other _ _ k _ hkg, heap_setCell_other _ _ k _ hkg]
theorem ptr_neqIn (d : Nat) (a : Addr) (w : World) : (Op.equalIn (d + 1) 57 (.pointer none) (.pointer (some a))).run Tryd.prog w = .ok false w := by
  have hs : (sizeOf 59).run Tryd.prog w = .ok 2 w := Tryd.sizeOf59 w
  simp [Op.equalIn, run_underlying Tryd.underlying57, hs, sameAddr]
theorem ptr_neqN (a : Addr) (w : World) : (binOp .neq 57 (.pointer none) (.pointer (some a))).run Tryd.prog w = .ok (.bool true) w := by
  have he : (Op.equal 57 (.pointer none) (.pointer (some a))).run Tryd.prog w = .ok false w := ptr_neqIn 9999 a w
  simp only [binOp]
  simp [he]

set_option maxRecDepth 20000 in
theorem oursF_any {w : World} {g : Nat} (h : EncZ w g) : Calls Tryd.prog 67 #[.pointer (some ⟨g, 0, none⟩)] w fun e w' => (∃ v, e = .returned v) ∧ EncAt w' g none 0 [] ∧ EncR g w none w' none := by
  have c0 := h.c0
  have c1 := h.c1
  have f0 := h.fz 0
  have f1 := h.fz 1
  have hq := ptr_neqN ⟨g, 0, none⟩
  have ho := Lib.hid h.own
  clear h
  go_enter Tryd.func67, Tryd.ntmps67
  go_wp2_with fail
  refine (bytes_Clone_nil 0 0 _).mono ?_
  rintro e w' ⟨rfl, rfl⟩
  go_wp2_with fail
  go_end0
  exact ⟨⟨_, rfl⟩, ho.out⟩

set_option maxRecDepth 20000 in
set_option maxHeartbeats 1000000 in
theorem put8F_any {w : World} {g : Nat} (h : EncZ w g) (v : Nat) (hv : v < 256) :
    Calls Tryd.prog 33 #[.pointer (some ⟨g, 0, none⟩), .int .u8 (v : Int)] w fun e w' => (∃ v, e = .returned v) ∧ ∃ A' c', EncAt w' g A' c' (fixF 1 v) ∧ EncR g w none w' A' := by
  have h' := Lib.hid h
  obtain ⟨U, hU⟩ : ∃ U, v = U := ⟨_, rfl⟩
  rw [hU]
  rw [hU] at hv
  have hm : (U : Int) % 18446744073709551616 = (U : Int) := by omega
  obtain ⟨V, hV⟩ : ∃ V, Hid (∀ _ : Unit, fixF 1 U = V) := ⟨_, Lib.hid fun _ => rfl⟩
  rw [hV.out ()]
  clear h
  go_enter Tryd.func33, Tryd.ntmps33
  go_wp2_with fail
  refine (oursF_any h'.out).mono ?_
  rintro e w1 ⟨⟨v0, rfl⟩, he0, hr0⟩
  have he0' := Lib.hid he0
  have hr0' := Lib.hid hr0
  clear he0 hr0 h'
  go_wp2_with fail
  refine (width8_any w1).mono ?_
  rintro e w' ⟨rfl, rfl⟩
  go_wp2_with fail
  go_loopw [4, 12] (fun uv iv wr => ∃ (j u : Nat) (acc : List Nat) (A' : Option Addr) (c' : Nat), j ≤ 1 ∧ iv = .int .i64 (j : Int) ∧ uv = .int .u64 (u : Int) ∧ acc.length = j ∧ Hid (acc ++ fixF (1 - j) u = V) ∧ Hid (EncAt wr g A' c' acc) ∧ Hid (EncR g w none wr A')) (fun _ iv _ => 1 - (intOf iv).toNat)
  case atStart => exact ⟨0, U, [], none, 0, by omega, rfl, rfl, rfl, Lib.hid (hV.out ()), he0', hr0'⟩
  case round =>
    obtain ⟨j, u, acc, A1, c1, hj, rfl, rfl, hal, hu, he, hr⟩ := hrel
    by_cases hlt : j < 1
    · obtain ⟨n, hn⟩ : ∃ n, Hid (∀ _ : Unit, acc.length = n) := ⟨_, Lib.hid fun _ => rfl⟩
      have hnl : n ≤ 70368744177010 := by rw [← hn.out ()]; omega
      have c0 := he.out.c0
      have fz := he.out.fz 0
      rw [hn.out ()] at c0
      have ho : Hid (Own wr (g + 1) 5 1 A1 n c1 (u8s acc)) := Lib.hid (by have := he.out.own; rwa [hn.out ()] at this)
      have hgl := Lib.hid (Nat.succ_le_of_lt he.out.lt)
      obtain ⟨y, hy⟩ : ∃ y, Hid (u % 256 = y) := ⟨_, Lib.hid rfl⟩
      have hyz : (u : Int) % 256 = (y : Int) := by rw [← hy.out]; omega
      have hnx : Hid ((acc ++ [y]) ++ fixF (1 - (j + 1)) (u / 256) = V) := Lib.hid (by
        have := hu.out
        rw [show 1 - j = (1 - (j + 1)) + 1 by omega, fixF, hy.out] at this
        rw [List.append_assoc]
        exact this)
      go_wp2_with (first | (at_builtin; refine wpList_app1 elB _ #[_] rfl rfl _ _ rfl rfl ho.out rfl (by intro u hu; simp at hu; subst hu; rfl) (by unfold maxLen; omega) (by omega) hgl.out (n + 1) rfl _ rfl ?_; intro A2 c2 w2 o2 at2 _; have hp := Lib.hid (he.out.one at2 (by rw [hn.out ()]) o2); have hm2 := he.out.mid at2; have m0 := hm2.1; have m1 := hm2.2; rw [hn.out ()] at m0; clear hm2 o2 at2 c0 fz))
      go_roundw
      case rel => exact ⟨j + 1, u / 256, acc ++ [y], A2, c2, by omega, by go_num, by go_num, by simp [hal], hnx, Lib.hid hp.out.1, Lib.hid (hr.out.trans hp.out.2)⟩
      case measure => simp [intOf]; omega
    · have hfin : Hid (acc = V) := Lib.hid (by
        have := hu.out
        rw [show 1 - j = 0 by omega, fixF, List.append_nil] at this
        exact this)
      go_wp2_with fail
      go_end0
      exact ⟨⟨_, rfl⟩, A1, c1, by rw [← hfin.out]; exact he.out, hr.out⟩

set_option maxRecDepth 20000 in
set_option maxHeartbeats 1000000 in
theorem text_any {w : World} {g c : Nat} {A : Option Addr} {l : List Nat} (h : EncAt w g A c l) (s : ByteArray) (hss : s.size ≤ 70368644000000) (hs : l.length ≤ 100000000) :
    Calls Tryd.prog 37 #[.pointer (some ⟨g, 0, none⟩), .string s] w fun e w' => (∃ v, e = .returned v) ∧ ∃ A' c', EncAt w' g A' c' (l ++ (varL s.size ++ strL s)) ∧ EncR g w A w' A' := by
  have hv := var_any h s.size (by omega) (by omega)
  have hv' := Lib.hid hv
  have hm : IntKind.u64.wrap ((s.size : Nat) : Int) = ((s.size : Nat) : Int) := by rw [IntKind.wrap_u64]; omega
  have hl2 : (l ++ varL s.size).length ≤ 100000010 := by
    rw [List.length_append]
    have := varF_length 10 s.size
    unfold varL
    omega
  clear hv h
  go_enter Tryd.func37, Tryd.ntmps37
  go_wp2_with fail
  refine hv'.out.mono ?_
  rintro e w1 ⟨⟨v, rfl⟩, A1, c1, he, hr⟩
  obtain ⟨n, hn⟩ : ∃ n, Hid (∀ _ : Unit, (l ++ varL s.size).length = n) := ⟨_, Lib.hid fun _ => rfl⟩
  have c0 := he.c0
  have fz := he.fz 0
  rw [hn.out ()] at c0 hl2
  have ho : Hid (Own w1 (g + 1) 5 1 A1 n c1 (u8s (l ++ varL s.size))) := Lib.hid (by have := he.own; rwa [hn.out ()] at this)
  have hgl := Lib.hid (Nat.succ_le_of_lt he.lt)
  have he' := Lib.hid he
  have hr' := Lib.hid hr
  clear he hr
  go_wp2_with (first | (at_builtin; refine wpList_appS elB Tryd.underlying9 _ rfl _ _ rfl rfl ho.out s rfl (by omega) hgl.out (n + s.size) rfl ?_; intro A2 c2 w2 o2 at2 _; have hp := Lib.hid (he'.out.put at2 (by rw [List.length_append, hn.out (), strL_length]) o2); have hm2 := he'.out.mid at2; have m0 := hm2.1; have m1 := hm2.2; rw [hn.out ()] at m0; clear hm2 o2 at2 c0 fz))
  go_end0
  exact ⟨⟨_, rfl⟩, A2, c2, by rw [← List.append_assoc]; exact hp.out.1, hr'.out.trans hp.out.2⟩

/-- bytes.Clone of bytes that are there. -/
theorem clone_any {w : World} {B : Nat} {A : Option Addr} {l : List Nat} (hb : Byt w B A l) (n c : Nat) (hn : l.length = n) (h0 : 0 < n) (hs : n ≤ 140737488355328) :
    Calls Tryd.prog 70 #[.slice A n c] w fun e w' => (∃ A' c', e = .returned (.slice A' n c') ∧ Own w' w.heap.size 5 1 A' n c' (u8s l)) ∧ Below w.heap.size w w' := by
  subst hn
  obtain ⟨b, off, rfl, _, hc⟩ := hb h0
  refine (bytes_Clone_at ⟨b, off, none⟩ l.length c (l.map fun x : Nat => (x : Int)) w (by simp) hs ?_).mono ?_
  · intro i hi
    rw [Addr.add_lit, hc i hi]
    simp [List.getD, List.getElem?_eq_getElem hi]
  · rintro e w' ⟨v', rfl, hown, _, hbel⟩
    obtain ⟨A', c', rfl⟩ := own_form hown
    have e1 : (l.map fun x : Nat => (x : Int)).map (Value.int .u8) = u8s l := by simp [u8s]
    rw [e1] at hown
    exact ⟨⟨A', c', rfl, hown⟩, hbel⟩

theorem encbytes_any {w : World} {g c : Nat} {A : Option Addr} {l : List Nat} (h : EncAt w g A c l) (h0 : 0 < l.length) (hs : l.length ≤ 140737488355328) :
    Calls Tryd.prog 40 #[.pointer (some ⟨g, 0, none⟩)] w fun e w' => (∃ A' c', e = .returned (.slice A' l.length c') ∧ Own w' w.heap.size 5 1 A' l.length c' (u8s l)) ∧ Below w.heap.size w w' := by
  have c0 := h.c0
  have hcl := Lib.hid (clone_any h.own.byt l.length c rfl h0 hs)
  obtain ⟨n, hn⟩ : ∃ n, Hid (∀ _ : Unit, l.length = n) := ⟨_, Lib.hid fun _ => rfl⟩
  rw [hn.out ()] at c0 hcl ⊢
  clear h
  go_enter Tryd.func40, Tryd.ntmps40
  go_wp2_with fail
  refine hcl.out.mono ?_
  rintro e w' ⟨⟨A', c', rfl, o⟩, b⟩
  have o' := Lib.hid o
  have b' := Lib.hid b
  clear o b
  go_wp2_with fail
  go_ret
  exact ⟨⟨A', c', rfl, o'.out⟩, b'.out⟩

end Go.Proofs.YtkjndgapejbgcaaDoor

namespace Go.Proofs.YtkjndgapejbgcaaDoor
open Go.RowKit
set_option linter.unusedSimpArgs false

/-- Is a field of another kind not nought? -/
def forB (o : ObjT) : Bool := !sameO (stripO o) oZ
def longB (o : ObjT) : Bool := decide (128 < o.parts.length) || decide (128 < o.items.length) || decide (127 < o.parents.length)
def noteB (o : ObjT) : Bool := decide (1024 < o.note.size) || !lettersD o.note o.note.size 0
def kindE (o : ObjT) : Nat :=
  if o.kind = 2 then (if partsB 0 o.parts then 0 else 47) else if o.kind = 3 then itemsE none o.items else if o.kind = 4 then (if noteB o then 46 else 0) else 0
def mayE (o : ObjT) : Nat := if o.kind < 1 ∨ 4 < o.kind then 40 else if forB o then 41 else if longB o then 42 else kindE o

def oneP (x : PartT) : List Nat := x.1.1 ++ varL x.2
def oneI (x : ItemT) : List Nat := varL x.1.size ++ strL x.1 ++ [x.2.1] ++ varL x.2.2.1 ++ x.2.2.2.1
def oneK (x : Key32) : List Nat := x.1
def layT (o : ObjT) : List Nat := o.tree.1 ++ varL o.parents.length ++ o.parents.flatMap oneK ++ fixF 8 (o.time % 18446744073709551616).toNat ++ (varL o.note.size ++ strL o.note)
/-- An object's bytes. -/
def layL (o : ObjT) : List Nat :=
  [o.kind] ++ (if o.kind = 1 then o.data else if o.kind = 2 then varL o.parts.length ++ o.parts.flatMap oneP else if o.kind = 3 then varL o.items.length ++ o.items.flatMap oneI else if o.kind = 4 then layT o else [])
def encE (o : ObjT) : Nat := if mayE o ≠ 0 then mayE o else if 8192 ≤ o.data.length then 48 else if 8192 < (layL o).length then 48 else 0
/-- What Encode tells. -/
def encL (o : ObjT) : List Nat := if encE o = 0 then layL o else []

theorem decide_list_nil {α : Type} [DecidableEq α] (l : List α) : decide (l = []) = decide (l.length = 0) := by
  cases l <;> simp
/-- The document's word for it. -/
def refFor (o : ObjT) : Bool :=
  (decide (o.kind ≠ 1) && decide (0 < o.data.length)) || (decide (o.kind ≠ 2) && decide (0 < o.parts.length)) || (decide (o.kind ≠ 3) && decide (0 < o.items.length)) ||
    (decide (o.kind ≠ 4) && (!decide (o.tree = zK) || decide (0 < o.parents.length) || !decide (o.time = 0) || !decide (o.note = ⟨#[]⟩)))
theorem nil_pos {α : Type} [DecidableEq α] (l : List α) : decide (l = []) = !decide (0 < l.length) := by
  cases l <;> simp
theorem forB_eq (o : ObjT) : forB o = refFor o := by
  unfold forB refFor stripO sameO oZ
  by_cases h1 : o.kind = 1
  · rw [if_pos h1]
    simp [h1, nil_pos]
    cases decide (0 < o.parts.length) <;> cases decide (0 < o.items.length) <;> cases decide (o.tree = zK) <;> cases decide (0 < o.parents.length) <;> cases decide (o.time = 0) <;> simp
  · rw [if_neg h1]
    by_cases h2 : o.kind = 2
    · rw [if_pos h2]
      simp [h2, nil_pos]
      cases decide (0 < o.data.length) <;> cases decide (0 < o.items.length) <;> cases decide (o.tree = zK) <;> cases decide (0 < o.parents.length) <;> cases decide (o.time = 0) <;> simp
    · rw [if_neg h2]
      by_cases h3 : o.kind = 3
      · rw [if_pos h3]
        simp [h3, nil_pos]
        cases decide (0 < o.data.length) <;> cases decide (0 < o.parts.length) <;> cases decide (o.tree = zK) <;> cases decide (0 < o.parents.length) <;> cases decide (o.time = 0) <;> simp
      · rw [if_neg h3]
        by_cases h4 : o.kind = 4
        · rw [if_pos h4]
          simp [h4, nil_pos]
        · rw [if_neg h4]
          simp [h1, h2, h3, h4, nil_pos]
          cases decide (0 < o.data.length) <;> cases decide (0 < o.parts.length) <;> cases decide (0 < o.items.length) <;> cases decide (o.tree = zK) <;> cases decide (0 < o.parents.length) <;> cases decide (o.time = 0) <;> simp

/-- The document's reckoning. -/
def kidsN (o : ObjT) : Nat := if o.kind = 2 then o.parts.length else if o.kind = 3 then o.items.length else if o.kind = 4 then 1 + o.parents.length else 0
def chkE (o : ObjT) : Nat :=
  if o.kind < 1 ∨ 4 < o.kind then 40 else if refFor o then 41 else if 128 < kidsN o then 42 else if kindE o ≠ 0 then kindE o else if 8192 < o.data.length ∨ 8192 < (layL o).length then 48 else 0
theorem refFor_own (o : ObjT) (h : refFor o = false) : (o.kind ≠ 1 → o.data = []) ∧ (o.kind ≠ 2 → o.parts = []) ∧ (o.kind ≠ 3 → o.items = []) ∧ (o.kind ≠ 4 → o.parents = []) := by
  unfold refFor at h
  simp only [Bool.or_eq_false_iff, Bool.and_eq_false_iff, decide_eq_false_iff_not, Nat.not_lt, Nat.le_zero, List.length_eq_zero_iff] at h
  obtain ⟨⟨⟨h1, h2⟩, h3⟩, h4⟩ := h
  refine ⟨fun h => ?_, fun h => ?_, fun h => ?_, fun h => ?_⟩
  · rcases h1 with h1 | h1
    · exact absurd h h1
    · exact h1
  · rcases h2 with h1 | h1
    · exact absurd h h1
    · exact h1
  · rcases h3 with h1 | h1
    · exact absurd h h1
    · exact h1
  · rcases h4 with h1 | h1
    · exact absurd h h1
    · exact h1.1.1.2
theorem encE_eq (o : ObjT) : encE o = chkE o := by
  unfold encE chkE mayE
  by_cases hk : o.kind < 1 ∨ 4 < o.kind
  · simp only [if_pos hk]; rfl
  · simp only [if_neg hk]
    rw [forB_eq]
    cases hr : refFor o with
    | true => rfl
    | false =>
      obtain ⟨h1, h2, h3, h4⟩ := refFor_own o hr
      have hlong : longB o = decide (128 < kidsN o) := by
        unfold longB kidsN
        by_cases k2 : o.kind = 2
        · rw [if_pos k2, h3 (by omega), h4 (by omega)]; simp
        · rw [if_neg k2, h2 k2]
          by_cases k3 : o.kind = 3
          · rw [if_pos k3, h4 (by omega)]; simp
          · rw [if_neg k3, h3 k3]
            by_cases k4 : o.kind = 4
            · rw [if_pos k4]
              simp only [List.length_nil, Nat.not_lt_zero, decide_false, Bool.false_or]
              rw [decide_eq_decide]
              omega
            · rw [if_neg k4, h4 k4]; simp
      rw [hlong]
      simp only [Bool.false_eq_true, if_false]
      by_cases hl : 128 < kidsN o
      · simp [hl]
      · simp only [hl, decide_false, Bool.false_eq_true, if_false]
        by_cases hke : kindE o = 0
        · simp only [hke, ne_eq, not_true_eq_false, if_false]
          have hd : 8192 ≤ o.data.length → 8192 < (layL o).length := fun h => by
            by_cases k1 : o.kind = 1
            · unfold layL
              rw [if_pos k1, List.length_append]
              simp
              omega
            · rw [h1 k1] at h
              simp at h
          by_cases hx : 8192 < (layL o).length
          · rw [if_pos hx, if_pos (Or.inr hx)]
            simp
          · rw [if_neg (fun h => hx (hd h)), if_neg hx, if_neg (fun h => hx (h.elim (fun h => hd (by omega)) id))]
        · rw [if_pos hke, if_pos hke]
end Go.Proofs.YtkjndgapejbgcaaDoor

namespace Go.Proofs.YtkjndgapejbgcaaDoor

theorem dec_drop (s : ByteArray) (i : Nat) : Lib.decodeL (s.data.toList.drop i) = Utf8.decode s i := by
  rw [Lib.decodeL_N, Lib.decode_at]
  have hg : ∀ j, (s.data.toList.drop i).getD j 0 = s.get! (i + j) := fun j => by
    rw [← Lib.getD_get!', List.getD_eq_getElem?_getD, List.getElem?_drop, ← List.getD_eq_getElem?_getD]
  rw [hg, hg, hg, hg, List.length_drop]
  rfl
theorem valid_letters (s : ByteArray) : ∀ f i, s.size ≤ i + f → Lib.validD (s.data.toList.drop i) = lettersD s f i
  | 0, i, h => by
    rw [List.drop_eq_nil_of_le (by rw [Array.length_toList]; exact h)]
    rfl
  | f + 1, i, h => by
    unfold lettersD
    by_cases hi : i < s.size
    · have hne : s.data.toList.drop i ≠ [] := by
        intro e
        have := congrArg List.length e
        rw [List.length_drop, Array.length_toList] at this
        have hs : s.data.size = s.size := rfl
        simp at this
        omega
      rw [Lib.validD_step _ hne, dec_drop, if_pos hi]
      have hb : badAt s i ↔ (Utf8.decode s i).1 = 65533 ∧ (Utf8.decode s i).2 = 1 := Iff.rfl
      by_cases hbad : badAt s i
      · rw [if_pos hbad, if_pos (hb.1 hbad)]
      · rw [if_neg hbad, if_neg (fun h => hbad (hb.2 h)), List.drop_drop]
        have := (inner_high s i hi hbad).1
        exact valid_letters s f _ (by omega)
    · rw [if_neg hi, List.drop_eq_nil_of_le (by rw [Array.length_toList]; have hs : s.data.size = s.size := rfl; omega)]
      rfl
theorem valid_all (s : ByteArray) : Lib.validD s.data.toList = lettersD s s.size 0 := by
  have := valid_letters s s.size 0 (by omega)
  rwa [List.drop_zero] at this
end Go.Proofs.YtkjndgapejbgcaaDoor

namespace Go.Proofs.YtkjndgapejbgcaaDoor
open Go.RowKit
def ren196 : Go.Shelf.Ren := ⟨fun | 196 => 66 | 259 => 102 | n => n, fun | 0 => 0 | 3 => 3 | 4 => 4 | 5 => 5 | 9 => 9 | 12 => 12 | 46 => 95 | 53 => 45 | 119 => 126 | 138 => 128 | 139 => 129 | n => n, fun | 3 => 2 | 4 => 3 | n => n⟩
theorem lays196 : Go.Proofs.Lays.n196 Tryd.prog ren196 := {
  mixed := by kernel_rfl
  f196 := Tryd.func66.trans (congrArg some (by kernel_rfl))
  f259 := Tryd.func102.trans (congrArg some (by kernel_rfl))
  t0 := Tryd.underlying0
  a0 := Tryd.isAgg0
  z0 := Tryd.sizeOf0
  v0 := Tryd.zeroValue0
  t3 := Tryd.underlying3
  a3 := Tryd.isAgg3
  z3 := Tryd.sizeOf3
  v3 := Tryd.zeroValue3
  t4 := Tryd.underlying4
  a4 := Tryd.isAgg4
  z4 := Tryd.sizeOf4
  v4 := Tryd.zeroValue4
  t5 := Tryd.underlying5
  a5 := Tryd.isAgg5
  z5 := Tryd.sizeOf5
  v5 := Tryd.zeroValue5
  t9 := Tryd.underlying9
  a9 := Tryd.isAgg9
  z9 := Tryd.sizeOf9
  v9 := Tryd.zeroValue9
  t12 := Tryd.underlying12
  a12 := Tryd.isAgg12
  z12 := Tryd.sizeOf12
  v12 := Tryd.zeroValue12
  t46 := Tryd.underlying95
  a46 := Tryd.isAgg95
  z46 := Tryd.sizeOf95
  v46 := Tryd.zeroValue95
  t53 := Tryd.underlying45
  a53 := Tryd.isAgg45
  z53 := Tryd.sizeOf45
  v53 := Tryd.zeroValue45
  t119 := Tryd.underlying126
  a119 := Tryd.isAgg126
  z119 := Tryd.sizeOf126
  t138 := Tryd.underlying128
  a138 := Tryd.isAgg128
  z138 := Tryd.sizeOf128
  v138 := Tryd.zeroValue128
  t139 := Tryd.underlying129
  a139 := Tryd.isAgg129
  z139 := Tryd.sizeOf129
  v139 := Tryd.zeroValue129
  g3 := by kernel_rfl
  g4 := by kernel_rfl
  }
theorem valid_any (s : ByteArray) (w : World) (hs : s.size ≤ 9223372036854775807) (hT : U8T w) :
    Calls Tryd.prog 66 #[.string s] w fun e w' => e = .returned (.bool (lettersD s s.size 0)) ∧ Below w.heap.size w w' := by
  rw [← valid_all s]
  exact Any.utf8_ValidString lays196 s w hs hT
end Go.Proofs.YtkjndgapejbgcaaDoor

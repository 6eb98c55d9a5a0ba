/- An object's bytes tell it: two objects that are taken are alike just if their bytes are: plain words. ObjectUnlike: the law's walk. -/
import Derived.Test.YtkjndgapejbgcaaDoorPkD17
import Derived.Test.YtkjndgapejbgcaaDoorPkD18
import Derived.Test.YtkjndgapejbgcaaDoorPkD25
import Derived.Deep.RegionHeld3

namespace Go.Proofs.YtkjndgapejbgcaaDoor
open Go.RowKit
set_option linter.unusedSimpArgs false
set_option linter.unusedVariables false

theorem varF_inj : ∀ (f u v : Nat) (x y : List Nat), u < 128 ^ f → v < 128 ^ f → varF f u ++ x = varF f v ++ y → u = v ∧ x = y
  | 0, u, v, x, y, hu, hv, h => by
    simp at hu hv
    subst hu hv
    exact ⟨rfl, by simpa [varF] using h⟩
  | f + 1, u, v, x, y, hu, hv, h => by
    unfold varF at h
    rw [Nat.pow_succ, Nat.mul_comm] at hu hv
    by_cases h1 : u < 128
    · rw [if_pos h1] at h
      by_cases h2 : v < 128
      · rw [if_pos h2] at h
        simp only [List.singleton_append, List.cons.injEq] at h
        exact h
      · rw [if_neg h2] at h
        simp only [List.singleton_append, List.cons_append, List.cons.injEq] at h
        omega
    · rw [if_neg h1] at h
      by_cases h2 : v < 128
      · rw [if_pos h2] at h
        simp only [List.singleton_append, List.cons_append, List.cons.injEq] at h
        omega
      · rw [if_neg h2] at h
        simp only [List.cons_append, List.cons.injEq] at h
        obtain ⟨h3, h4⟩ := varF_inj f (u / 128) (v / 128) x y (Nat.div_lt_of_lt_mul hu) (Nat.div_lt_of_lt_mul hv) h.2
        exact ⟨by omega, h4⟩
theorem varL_inj {u v : Nat} {x y : List Nat} (hu : u < 18446744073709551616) (hv : v < 18446744073709551616) (h : varL u ++ x = varL v ++ y) : u = v ∧ x = y :=
  varF_inj 10 u v x y (by omega) (by omega) h
theorem app_inj {α : Type} {a b x y : List α} (hl : a.length = b.length) (h : a ++ x = b ++ y) : a = b ∧ x = y := List.append_inj h hl
theorem key_inj {a b : Key32} {x y : List Nat} (h : a.1 ++ x = b.1 ++ y) : a = b ∧ x = y := by
  obtain ⟨h1, h2⟩ := app_inj (by rw [a.2, b.2]) h
  exact ⟨Subtype.ext h1, h2⟩
theorem strL_inj {s t : ByteArray} (h : strL s = strL t) : s = t := by
  obtain ⟨⟨a⟩⟩ := s
  obtain ⟨⟨b⟩⟩ := t
  simp only [strL] at h
  congr 2
  induction a generalizing b with
  | nil => cases b <;> simp_all
  | cons x a ih =>
    cases b with
    | nil => simp at h
    | cons y b =>
      simp only [List.map_cons, List.cons.injEq] at h
      rw [UInt8.toNat_inj.1 h.1, ih b h.2]
theorem text_inj {s t : ByteArray} {x y : List Nat} (hs : s.size < 18446744073709551616) (ht : t.size < 18446744073709551616) (h : varL s.size ++ (strL s ++ x) = varL t.size ++ (strL t ++ y)) : s = t ∧ x = y := by
  obtain ⟨h1, h2⟩ := varL_inj hs ht h
  obtain ⟨h3, h4⟩ := app_inj (by rw [strL_length, strL_length, h1]) h2
  exact ⟨strL_inj h3, h4⟩
theorem fixF_inj : ∀ (n u v : Nat), u < 256 ^ n → v < 256 ^ n → fixF n u = fixF n v → u = v
  | 0, u, v, hu, hv, _ => by simp at hu hv; omega
  | n + 1, u, v, hu, hv, h => by
    unfold fixF at h
    simp only [List.cons.injEq] at h
    rw [Nat.pow_succ, Nat.mul_comm] at hu hv
    have := fixF_inj n (u / 256) (v / 256) (Nat.div_lt_of_lt_mul hu) (Nat.div_lt_of_lt_mul hv) h.2
    omega
theorem flat_inj {α : Type} {f : α → List Nat} {ok : α → Prop} (hf : ∀ a b x y, ok a → ok b → f a ++ x = f b ++ y → a = b ∧ x = y) : ∀ (l m : List α) (x y : List Nat), (∀ a ∈ l, ok a) → (∀ a ∈ m, ok a) → l.length = m.length → l.flatMap f ++ x = m.flatMap f ++ y → l = m ∧ x = y
  | [], [], x, y, _, _, _, h => ⟨rfl, by simpa using h⟩
  | [], _ :: _, _, _, _, _, h, _ => by simp at h
  | _ :: _, [], _, _, _, _, h, _ => by simp at h
  | a :: l, b :: m, x, y, hl, hm, h, he => by
    simp only [List.flatMap_cons, List.append_assoc] at he
    obtain ⟨h1, h2⟩ := hf a b _ _ (hl a (by simp)) (hm b (by simp)) he
    obtain ⟨h3, h4⟩ := flat_inj hf l m x y (fun z hz => hl z (by simp [hz])) (fun z hz => hm z (by simp [hz])) (by simpa using h) h2
    exact ⟨by rw [h1, h3], h4⟩
theorem oneP_inj (a b : PartT) (x y : List Nat) (ha : okP a) (hb : okP b) (h : oneP a ++ x = oneP b ++ y) : a = b ∧ x = y := by
  unfold oneP at h
  rw [List.append_assoc, List.append_assoc] at h
  obtain ⟨h1, h2⟩ := key_inj h
  obtain ⟨h3, h4⟩ := varL_inj ha.2 hb.2 h2
  exact ⟨Prod.ext h1 h3, h4⟩
theorem max64 {n : Nat} (h : n ≤ maxLen) : n < 18446744073709551616 := by unfold maxLen at h; omega
theorem oneI_inj (a b : ItemT) (x y : List Nat) (ha : okI a) (hb : okI b) (h : oneI a ++ x = oneI b ++ y) : a = b ∧ x = y := by
  unfold oneI at h
  simp only [List.append_assoc] at h
  obtain ⟨h1, h2⟩ := text_inj (max64 ha.1) (max64 hb.1) h
  simp only [List.singleton_append, List.cons.injEq] at h2
  obtain ⟨h3, h4⟩ := varL_inj ha.2.2.1 hb.2.2.1 h2.2
  obtain ⟨h5, h6⟩ := key_inj h4
  exact ⟨Prod.ext h1 (Prod.ext h2.1 (Prod.ext h3 h5)), h6⟩
theorem oneK_inj (a b : Key32) (x y : List Nat) (ha : True) (hb : True) (h : oneK a ++ x = oneK b ++ y) : a = b ∧ x = y := key_inj h

theorem sameO_iff (a b : ObjT) : sameO a b = true ↔ a.kind = b.kind ∧ a.data = b.data ∧ a.parts = b.parts ∧ a.items = b.items ∧ a.tree = b.tree ∧ a.parents = b.parents ∧ a.time = b.time ∧ a.note = b.note := by
  unfold sameO
  simp only [Bool.and_eq_true, decide_eq_true_eq, and_assoc]
theorem refFor_rest (o : ObjT) (h : refFor o = false) (h4 : o.kind ≠ 4) : o.tree = zK ∧ o.time = 0 ∧ o.note = ⟨#[]⟩ := by
  unfold refFor at h
  simp only [Bool.or_eq_false_iff, Bool.and_eq_false_iff, decide_eq_false_iff_not, Bool.not_eq_false', decide_eq_true_eq] at h
  rcases h.2 with h1 | h1
  · exact absurd h4 h1
  · exact ⟨h1.1.1.1, h1.1.2, h1.2⟩
/-- What is taken. -/
structure Taken (o : ObjT) : Prop where
  may : MayB o
  good : Good o
theorem layL_inj {a b : ObjT} (ha : Taken a) (hb : Taken b) (h : layL a = layL b) : sameO a b = true := by
  have hk : a.kind = b.kind := by
    unfold layL at h
    simp only [List.singleton_append, List.cons.injEq] at h
    exact h.1
  have h' := h
  unfold layL at h'
  simp only [List.singleton_append, List.cons.injEq] at h'
  have h2 := h'.2
  clear h'
  obtain ⟨a1, a2, a3, a4⟩ := refFor_own a ha.may.hf
  obtain ⟨b1, b2, b3, b4⟩ := refFor_own b hb.may.hf
  rw [sameO_iff]
  have k1 := ha.may.k1
  have k4 := ha.may.k4
  have hp1 := ha.may.ps; have hp2 := hb.may.ps
  have hx1 := ha.may.xs; have hx2 := hb.may.xs
  have hq1 := ha.may.ks; have hq2 := hb.may.ks
  rcases (by omega : a.kind = 1 ∨ a.kind = 2 ∨ a.kind = 3 ∨ a.kind = 4) with k | k | k | k
  · have kb : b.kind = 1 := by omega
    rw [if_pos k, if_pos kb] at h2
    obtain ⟨r1, r2, r3⟩ := refFor_rest a ha.may.hf (by omega)
    obtain ⟨s1, s2, s3⟩ := refFor_rest b hb.may.hf (by omega)
    exact ⟨hk, h2, by rw [a2 (by omega), b2 (by omega)], by rw [a3 (by omega), b3 (by omega)], by rw [r1, s1], by rw [a4 (by omega), b4 (by omega)], by rw [r2, s2], by rw [r3, s3]⟩
  · have kb : b.kind = 2 := by omega
    rw [if_neg (by omega), if_pos k, if_neg (by omega), if_pos kb] at h2
    obtain ⟨r1, r2, r3⟩ := refFor_rest a ha.may.hf (by omega)
    obtain ⟨s1, s2, s3⟩ := refFor_rest b hb.may.hf (by omega)
    obtain ⟨e1, e2⟩ := varL_inj (by omega) (by omega) h2
    obtain ⟨e3, _⟩ := flat_inj oneP_inj a.parts b.parts [] [] ha.good.ps hb.good.ps e1 (by simpa using e2)
    exact ⟨hk, by rw [a1 (by omega), b1 (by omega)], e3, by rw [a3 (by omega), b3 (by omega)], by rw [r1, s1], by rw [a4 (by omega), b4 (by omega)], by rw [r2, s2], by rw [r3, s3]⟩
  · have kb : b.kind = 3 := by omega
    rw [if_neg (by omega), if_neg (by omega), if_pos k, if_neg (by omega), if_neg (by omega), if_pos kb] at h2
    obtain ⟨r1, r2, r3⟩ := refFor_rest a ha.may.hf (by omega)
    obtain ⟨s1, s2, s3⟩ := refFor_rest b hb.may.hf (by omega)
    obtain ⟨e1, e2⟩ := varL_inj (by omega) (by omega) h2
    obtain ⟨e3, _⟩ := flat_inj oneI_inj a.items b.items [] [] ha.good.xs hb.good.xs e1 (by simpa using e2)
    exact ⟨hk, by rw [a1 (by omega), b1 (by omega)], by rw [a2 (by omega), b2 (by omega)], e3, by rw [r1, s1], by rw [a4 (by omega), b4 (by omega)], by rw [r2, s2], by rw [r3, s3]⟩
  · have kb : b.kind = 4 := by omega
    rw [if_neg (by omega), if_neg (by omega), if_neg (by omega), if_pos k, if_neg (by omega), if_neg (by omega), if_neg (by omega), if_pos kb] at h2
    unfold layT at h2
    simp only [List.append_assoc] at h2
    obtain ⟨e1, h3⟩ := key_inj h2
    obtain ⟨e2, h4⟩ := varL_inj (by omega) (by omega) h3
    obtain ⟨e3, h5⟩ := flat_inj oneK_inj a.parents b.parents _ _ (fun _ _ => trivial) (fun _ _ => trivial) e2 h4
    obtain ⟨e4, h6⟩ := app_inj (by rw [fixF_length, fixF_length]) h5
    have ta := ha.good.time
    have tb := hb.good.time
    have e5 := fixF_inj 8 _ _ (by omega) (by omega) e4
    obtain ⟨e6, _⟩ := text_inj (x := []) (y := []) (max64 ha.good.note) (max64 hb.good.note) (by simpa using h6)
    exact ⟨hk, by rw [a1 (by omega), b1 (by omega)], by rw [a2 (by omega), b2 (by omega)], by rw [a3 (by omega), b3 (by omega)], e1, e3, by omega, e6⟩
theorem layL_same {a b : ObjT} (h : sameO a b = true) : layL a = layL b := by
  obtain ⟨h1, h2, h3, h4, h5, h6, h7, h8⟩ := (sameO_iff a b).1 h
  unfold layL layT
  rw [h1, h2, h3, h4, h5, h6, h7, h8]
theorem encE_taken {o : ObjT} (h : encE o = 0) : mayE o = 0 := by
  unfold encE at h
  by_cases h1 : mayE o = 0
  · exact h1
  · rw [if_pos h1] at h
    exact h
theorem layL_iff {a b : ObjT} (ha : encE a = 0) (hb : encE b = 0) (ga : Good a) (gb : Good b) : decide (layL a = layL b) = sameO a b := by
  have ta : Taken a := ⟨mayE_bounds (encE_taken ha), ga⟩
  have tb : Taken b := ⟨mayE_bounds (encE_taken hb), gb⟩
  cases hs : sameO a b with
  | true => exact decide_eq_true (layL_same hs)
  | false => exact decide_eq_false fun h => by rw [layL_inj ta tb h] at hs; cases hs
theorem varL_lt (v : Nat) : ∀ x ∈ varL v, x < 256 := by
  have key : ∀ f v, ∀ x ∈ varF f v, x < 256 := by
    intro f
    induction f with
    | zero => intro v x hx; simp [varF] at hx
    | succ f ih =>
      intro v x hx
      unfold varF at hx
      split at hx
      · simp at hx; omega
      · rcases List.mem_cons.1 hx with rfl | hx
        · omega
        · exact ih _ x hx
  exact key 10 v
theorem fixF_lt : ∀ n v, ∀ x ∈ fixF n v, x < 256
  | 0, v, x, hx => by simp [fixF] at hx
  | n + 1, v, x, hx => by
    unfold fixF at hx
    rcases List.mem_cons.1 hx with rfl | hx
    · omega
    · exact fixF_lt n _ x hx
theorem layL_lt {o : ObjT} (hg : Good o) (hd : ∀ x ∈ o.data, x < 256) (hk : o.kind < 256) : ∀ x ∈ layL o, x < 256 := by
  intro x hx
  unfold layL layT at hx
  have hO : ∀ y ∈ o.parts, ∀ x ∈ oneP y, x < 256 := fun y hy x hx => by
    unfold oneP at hx
    rcases List.mem_append.1 hx with h | h
    · exact (hg.ps y hy).1 x h
    · exact varL_lt _ x h
  have hI : ∀ y ∈ o.items, ∀ x ∈ oneI y, x < 256 := fun y hy x hx => by
    unfold oneI at hx
    simp only [List.mem_append, List.mem_singleton] at hx
    obtain ⟨_, h2, _, h4⟩ := hg.xs y hy
    rcases hx with (((h | h) | h) | h) | h
    · exact varL_lt _ x h
    · exact strL_lt _ x h
    · omega
    · exact varL_lt _ x h
    · exact h4 x h
  simp only [List.mem_append, List.mem_singleton] at hx
  rcases hx with h | h
  · omega
  · split at h
    · exact hd x h
    · split at h
      · rcases List.mem_append.1 h with h | h
        · exact varL_lt _ x h
        · obtain ⟨y, hy, hx⟩ := List.mem_flatMap.1 h
          exact hO y hy x hx
      · split at h
        · rcases List.mem_append.1 h with h | h
          · exact varL_lt _ x h
          · obtain ⟨y, hy, hx⟩ := List.mem_flatMap.1 h
            exact hI y hy x hx
        · split at h
          · simp only [List.mem_append] at h
            rcases h with (((h | h) | h) | h) | (h | h)
            · exact hg.tree x h
            · exact varL_lt _ x h
            · obtain ⟨y, hy, hx⟩ := List.mem_flatMap.1 h
              exact hg.ks y hy x hx
            · exact fixF_lt _ _ x h
            · exact varL_lt _ x h
            · exact strL_lt _ x h
          · simp at h
end Go.Proofs.YtkjndgapejbgcaaDoor

namespace Go.Proofs.YtkjndgapejbgcaaDoor
open Go.RowKit
set_option linter.unusedSimpArgs false
set_option linter.unusedVariables false

section
variable {P : Program} {ops : Array Oper} {S : World → Prop} {op : Oper} {a : Act}
theorem yieldsIf_mv (hw : Region.wanted op (yielded ops a.tmps) = true) (x : Operand) (ho : op.op = .move x) (v : Value) (hx : a.eval x = v) : YieldsIf P ops S op v a :=
  .inl ⟨hw, fun w _ => by unfold execOp; simp [ho, hx]⟩
theorem yieldsIf_conv (hw : Region.wanted op (yielded ops a.tmps) = true) (t t' : TypeId) (x : Operand) (ho : op.op = .convert t t' x) (u : Value) (hx : a.eval x = u) (v : Value) (hr : ∀ w, S w → (convert t t' u).run P w = .ok v w) : YieldsIf P ops S op v a :=
  .inl ⟨hw, fun w hw' => by unfold execOp; simp [ho, hx, hr w hw']⟩
theorem yieldsIf_bin (hw : Region.wanted op (yielded ops a.tmps) = true) (bo : BinOp) (t t2 : TypeId) (x y : Operand) (ho : op.op = .binOp bo t x y t2) (u1 u2 : Value) (hx : a.eval x = u1) (hy : a.eval y = u2) (v : Value)
    (hg : ∀ w, (eqGuard bo t x y u1 u2).run P w = .ok () w) (hr : ∀ w, S w → (binOp bo t u1 u2).run P w = .ok v w) : YieldsIf P ops S op v a :=
  .inl ⟨hw, fun w hw' => by unfold execOp; simp [ho, hx, hy, hg w, hr w hw']⟩
end
theorem OBlk.rangeO {w : World} {g : Nat} {o : ObjT} {p : Lay} (h : OBlk w g o p) : w.rangeAt g 0 (ocells o p) := fun j v hv => by
  rw [Nat.zero_add]
  exact h.cell hv
/-- Two objects in the call's first blocks. -/
structure UnS (w W : World) (a b : ObjT) (p q : Lay) : Prop where
  bel : Below w.heap.size w W
  oa : OBlk W w.heap.size a p
  ob : OBlk W (w.heap.size + 1) b q
theorem UnS.below {w W W' : World} {a b : ObjT} {p q : Lay} (h : UnS w W a b p q) (hb : Below W.heap.size W W') : UnS w W' a b p q :=
  ⟨h.bel.trans (hb.mono h.bel.size), h.oa.below hb (lt_of_block h.oa), h.ob.below hb (lt_of_block h.ob)⟩
theorem enc_to {w W : World} {o : ObjT} {p : Lay} (h : EncIn w o p) (hb : Below w.heap.size w W) : EncIn W o p :=
  ⟨⟨u8t_keep h.may.tabs hb, (h.may.oin.below hb).mono hb.size, h.may.fit, h.may.ps, h.may.note⟩, h.good⟩
theorem encode_bad (w : World) (o : ObjT) (p : Lay) (hm : EncIn w o p) {E : Nat} (h : encE o = E) (h0 : E ≠ 0) :
    Calls Tryd.prog 12 #[.agg (ocells o p).toArray] w fun e w' => (∃ A c, e = .returned (.tuple #[.slice A 0 c, .int .i64 (E : Int)])) ∧ Below w.heap.size w w' := by
  refine (encode_any w o p hm).mono ?_
  rintro e w' ⟨⟨A, c, rfl, _⟩, hb⟩
  have hl : encL o = [] := by unfold encL; rw [if_neg (by omega)]
  exact ⟨⟨A, c, by rw [hl, h]; rfl⟩, hb⟩
theorem encode_ok (w : World) (o : ObjT) (p : Lay) (hm : EncIn w o p) (h : encE o = 0) {n : Nat} (hn : (layL o).length = n) :
    Calls Tryd.prog 12 #[.agg (ocells o p).toArray] w fun e w' => (∃ A c, e = .returned (.tuple #[.slice A n c, .int .i64 0]) ∧ Own w' w.heap.size 5 1 A n c (u8s (layL o))) ∧ Below w.heap.size w w' := by
  subst hn
  refine (encode_any w o p hm).mono ?_
  rintro e w' ⟨⟨A, c, rfl, ho⟩, hb⟩
  have hl : encL o = layL o := by unfold encL; rw [if_pos h]
  rw [hl] at ho ⊢
  exact ⟨⟨A, c, by rw [h]; rfl, ho⟩, hb⟩
theorem rchk_to {w W : World} {o : ObjT} {p : Lay} (h : EncIn w o p) (hb : Below w.heap.size w W) {E : Nat} (hE : encE o = E) :
    Calls Tryd.prog 13 #[.agg (ocells o p).toArray] W fun e w' => e = .returned (.int .i64 (E : Int)) ∧ Below W.heap.size W w' := by
  rw [← hE, encE_eq]
  exact rchk_any W o p ⟨(h.may.oin.below hb).mono hb.size, h.may.fit, h.good⟩

set_option maxRecDepth 100000 in
set_option maxHeartbeats 4000000 in
theorem unlike_nn (w : World) (a b : ObjT) (p q : Lay) (ha : EncIn w a p) (hb : EncIn w b q) (haz : encE a ≠ 0) (hbz : encE b ≠ 0) :
    Calls Tryd.prog 4 #[.agg (ocells a p).toArray, .agg (ocells b q).toArray] w fun e w' => e = .returned (.bool true) ∧ Below w.heap.size w w' := by
  have hi39 : (Tryd.prog.info? 31).map (·.size) = some 39 := by kernel_rfl
  have hi39' := Lib.hid hi39
  have h39' := Lib.hid (fun (x : ObjT) (q : Lay) => show (ocells x q).toArray.size = 39 by simp [ocells_length])
  have hB : Below w.heap.size w ((w.alloc (.cells (ocells a p).toArray 31)).alloc (.cells (ocells b q).toArray 31)) := ((Below.refl _ _).alloc (Nat.le_refl _) _).alloc (by simp) _
  have hs0 := Lib.hid (show UnS w ((w.alloc (.cells (ocells a p).toArray 31)).alloc (.cells (ocells b q).toArray 31)) a b p q from ⟨hB, heap_alloc2_old w _ _, heap_alloc2_new w _ _⟩)
  have ha' := Lib.hid ha
  have hb' := Lib.hid hb
  have ha0 := Lib.hid haz
  obtain ⟨E, haE⟩ : ∃ E, Hid (∀ _ : Unit, encE a = E) := ⟨_, Lib.hid fun _ => rfl⟩
  rw [haE.out ()] at ha0
  have qa1 : ((E : Int) == 0) = false := by have := ha0.out; simp; omega
  have qa2 : ((E : Int) != 0) = true := by have := ha0.out; simp [bne_iff_ne]; omega
  clear haz
  have hb0 := Lib.hid hbz
  obtain ⟨F, hbE⟩ : ∃ E, Hid (∀ _ : Unit, encE b = E) := ⟨_, Lib.hid fun _ => rfl⟩
  rw [hbE.out ()] at hb0
  have qb1 : ((F : Int) == 0) = false := by have := hb0.out; simp; omega
  have qb2 : ((F : Int) != 0) = true := by have := hb0.out; simp [bne_iff_ne]; omega
  clear hbz
  clear ha hb hi39 hB
  go_enter Tryd.func4, Tryd.ntmps4
  go_wp2_with (first
    | (refine wpList_load_row_g rfl 31 _ rfl w.heap.size rfl 31 _ (0, 0) _ hs0.out.oa Tryd.underlying31 rfl (by rw [h39'.out]; exact hi39'.out) ?_))
  refine (encode_bad _ a p (enc_to ha'.out hs0.out.bel) (haE.out ()) ha0.out).mono ?_
  rintro e w1 ⟨⟨Aa, ca, rfl⟩, b1⟩
  have hs1 := Lib.hid (hs0.out.below b1)
  clear hs0 b1
  go_wp2_with (first | (refine wpList_load_row_g rfl 31 _ rfl (w.heap.size + 1) rfl 31 _ (0, 0) _ hs1.out.ob Tryd.underlying31 rfl (by rw [h39'.out]; exact hi39'.out) ?_))
  refine (encode_bad _ b q (enc_to hb'.out hs1.out.bel) (hbE.out ()) hb0.out).mono ?_
  rintro e w2 ⟨⟨Ab, cb, rfl⟩, b2⟩
  have hs2 := Lib.hid (hs1.out.below b2)
  clear hs1 b2
  go_wp2_with (first | (refine wpList_load_row_g rfl 31 _ rfl w.heap.size rfl 31 _ (0, 0) _ hs2.out.oa Tryd.underlying31 rfl (by rw [h39'.out]; exact hi39'.out) ?_))
  refine (rchk_to ha'.out hs2.out.bel (haE.out ())).mono ?_
  rintro e w3 ⟨rfl, b3⟩
  have hs3 := Lib.hid (hs2.out.below b3)
  clear hs2 b3
  go_wp2_with (first | (refine wpList_load_row_g rfl 31 _ rfl (w.heap.size + 1) rfl 31 _ (0, 0) _ hs3.out.ob Tryd.underlying31 rfl (by rw [h39'.out]; exact hi39'.out) ?_))
  refine (rchk_to hb'.out hs3.out.bel (hbE.out ())).mono ?_
  rintro e w4 ⟨rfl, b4⟩
  have hs4 := Lib.hid (hs3.out.below b4)
  clear hs3 b4
  go_wp2_with fail
  go_ret
  exact ⟨rfl, hs4.out.bel⟩

set_option maxRecDepth 100000 in
set_option maxHeartbeats 4000000 in
theorem unlike_no (w : World) (a b : ObjT) (p q : Lay) (ha : EncIn w a p) (hb : EncIn w b q) (haz : encE a ≠ 0) (hbz : encE b = 0) :
    Calls Tryd.prog 4 #[.agg (ocells a p).toArray, .agg (ocells b q).toArray] w fun e w' => e = .returned (.bool true) ∧ Below w.heap.size w w' := by
  have hi39 : (Tryd.prog.info? 31).map (·.size) = some 39 := by kernel_rfl
  have hi39' := Lib.hid hi39
  have h39' := Lib.hid (fun (x : ObjT) (q : Lay) => show (ocells x q).toArray.size = 39 by simp [ocells_length])
  have hB : Below w.heap.size w ((w.alloc (.cells (ocells a p).toArray 31)).alloc (.cells (ocells b q).toArray 31)) := ((Below.refl _ _).alloc (Nat.le_refl _) _).alloc (by simp) _
  have hs0 := Lib.hid (show UnS w ((w.alloc (.cells (ocells a p).toArray 31)).alloc (.cells (ocells b q).toArray 31)) a b p q from ⟨hB, heap_alloc2_old w _ _, heap_alloc2_new w _ _⟩)
  have ha' := Lib.hid ha
  have hb' := Lib.hid hb
  have ha0 := Lib.hid haz
  obtain ⟨E, haE⟩ : ∃ E, Hid (∀ _ : Unit, encE a = E) := ⟨_, Lib.hid fun _ => rfl⟩
  rw [haE.out ()] at ha0
  have qa1 : ((E : Int) == 0) = false := by have := ha0.out; simp; omega
  have qa2 : ((E : Int) != 0) = true := by have := ha0.out; simp [bne_iff_ne]; omega
  clear haz
  have hb0 := Lib.hid hbz
  have hbE : Hid (∀ _ : Unit, encE b = 0) := Lib.hid fun _ => hb0.out
  obtain ⟨nb, hbn⟩ : ∃ n, Hid (∀ _ : Unit, (layL b).length = n) := ⟨_, Lib.hid fun _ => rfl⟩
  clear hbz
  clear ha hb hi39 hB
  go_enter Tryd.func4, Tryd.ntmps4
  go_wp2_with (first
    | (refine wpList_load_row_g rfl 31 _ rfl w.heap.size rfl 31 _ (0, 0) _ hs0.out.oa Tryd.underlying31 rfl (by rw [h39'.out]; exact hi39'.out) ?_))
  refine (encode_bad _ a p (enc_to ha'.out hs0.out.bel) (haE.out ()) ha0.out).mono ?_
  rintro e w1 ⟨⟨Aa, ca, rfl⟩, b1⟩
  have hs1 := Lib.hid (hs0.out.below b1)
  clear hs0 b1
  go_wp2_with (first | (refine wpList_load_row_g rfl 31 _ rfl (w.heap.size + 1) rfl 31 _ (0, 0) _ hs1.out.ob Tryd.underlying31 rfl (by rw [h39'.out]; exact hi39'.out) ?_))
  refine (encode_ok _ b q (enc_to hb'.out hs1.out.bel) hb0.out (hbn.out ())).mono ?_
  rintro e w2 ⟨⟨Ab, cb, rfl, ob⟩, b2⟩
  have hs2 := Lib.hid (hs1.out.below b2)
  have ob' := Lib.hid ob
  clear hs1 b2 ob
  go_wp2_with (first | (refine wpList_load_row_g rfl 31 _ rfl w.heap.size rfl 31 _ (0, 0) _ hs2.out.oa Tryd.underlying31 rfl (by rw [h39'.out]; exact hi39'.out) ?_))
  refine (rchk_to ha'.out hs2.out.bel (haE.out ())).mono ?_
  rintro e w3 ⟨rfl, b3⟩
  have hs3 := Lib.hid (hs2.out.below b3)
  have ob3' := Lib.hid (ob'.out.below b3 fun k hk => (ob'.out.lt k hk).2)
  clear ob'
  clear hs2 b3
  go_wp2_with (first | (refine wpList_load_row_g rfl 31 _ rfl (w.heap.size + 1) rfl 31 _ (0, 0) _ hs3.out.ob Tryd.underlying31 rfl (by rw [h39'.out]; exact hi39'.out) ?_))
  refine (rchk_to hb'.out hs3.out.bel (hbE.out ())).mono ?_
  rintro e w4 ⟨rfl, b4⟩
  have hs4 := Lib.hid (hs3.out.below b4)
  have ob4' := Lib.hid (ob3'.out.below b4 fun k hk => (ob3'.out.lt k hk).2)
  clear ob3'
  clear hs3 b4
  go_wp2_with fail
  go_ret
  exact ⟨rfl, hs4.out.bel⟩

set_option maxRecDepth 100000 in
set_option maxHeartbeats 4000000 in
theorem unlike_on (w : World) (a b : ObjT) (p q : Lay) (ha : EncIn w a p) (hb : EncIn w b q) (haz : encE a = 0) (hbz : encE b ≠ 0) :
    Calls Tryd.prog 4 #[.agg (ocells a p).toArray, .agg (ocells b q).toArray] w fun e w' => e = .returned (.bool true) ∧ Below w.heap.size w w' := by
  have hi39 : (Tryd.prog.info? 31).map (·.size) = some 39 := by kernel_rfl
  have hi39' := Lib.hid hi39
  have h39' := Lib.hid (fun (x : ObjT) (q : Lay) => show (ocells x q).toArray.size = 39 by simp [ocells_length])
  have hB : Below w.heap.size w ((w.alloc (.cells (ocells a p).toArray 31)).alloc (.cells (ocells b q).toArray 31)) := ((Below.refl _ _).alloc (Nat.le_refl _) _).alloc (by simp) _
  have hs0 := Lib.hid (show UnS w ((w.alloc (.cells (ocells a p).toArray 31)).alloc (.cells (ocells b q).toArray 31)) a b p q from ⟨hB, heap_alloc2_old w _ _, heap_alloc2_new w _ _⟩)
  have ha' := Lib.hid ha
  have hb' := Lib.hid hb
  have ha0 := Lib.hid haz
  have haE : Hid (∀ _ : Unit, encE a = 0) := Lib.hid fun _ => ha0.out
  obtain ⟨na, han⟩ : ∃ n, Hid (∀ _ : Unit, (layL a).length = n) := ⟨_, Lib.hid fun _ => rfl⟩
  clear haz
  have hb0 := Lib.hid hbz
  obtain ⟨F, hbE⟩ : ∃ E, Hid (∀ _ : Unit, encE b = E) := ⟨_, Lib.hid fun _ => rfl⟩
  rw [hbE.out ()] at hb0
  have qb1 : ((F : Int) == 0) = false := by have := hb0.out; simp; omega
  have qb2 : ((F : Int) != 0) = true := by have := hb0.out; simp [bne_iff_ne]; omega
  clear hbz
  clear ha hb hi39 hB
  go_enter Tryd.func4, Tryd.ntmps4
  go_wp2_with (first
    | (refine wpList_load_row_g rfl 31 _ rfl w.heap.size rfl 31 _ (0, 0) _ hs0.out.oa Tryd.underlying31 rfl (by rw [h39'.out]; exact hi39'.out) ?_))
  refine (encode_ok _ a p (enc_to ha'.out hs0.out.bel) ha0.out (han.out ())).mono ?_
  rintro e w1 ⟨⟨Aa, ca, rfl, oa⟩, b1⟩
  have hs1 := Lib.hid (hs0.out.below b1)
  have oa' := Lib.hid oa
  clear hs0 b1 oa
  go_wp2_with (first | (refine wpList_load_row_g rfl 31 _ rfl (w.heap.size + 1) rfl 31 _ (0, 0) _ hs1.out.ob Tryd.underlying31 rfl (by rw [h39'.out]; exact hi39'.out) ?_))
  refine (encode_bad _ b q (enc_to hb'.out hs1.out.bel) (hbE.out ()) hb0.out).mono ?_
  rintro e w2 ⟨⟨Ab, cb, rfl⟩, b2⟩
  have hs2 := Lib.hid (hs1.out.below b2)
  have oa2' := Lib.hid (oa'.out.below b2 fun k hk => (oa'.out.lt k hk).2)
  clear oa'
  clear hs1 b2
  go_wp2_with (first | (refine wpList_load_row_g rfl 31 _ rfl w.heap.size rfl 31 _ (0, 0) _ hs2.out.oa Tryd.underlying31 rfl (by rw [h39'.out]; exact hi39'.out) ?_))
  refine (rchk_to ha'.out hs2.out.bel (haE.out ())).mono ?_
  rintro e w3 ⟨rfl, b3⟩
  have hs3 := Lib.hid (hs2.out.below b3)
  have oa3' := Lib.hid (oa2'.out.below b3 fun k hk => (oa2'.out.lt k hk).2)
  clear oa2'
  clear hs2 b3
  go_wp2_with (first | (refine wpList_load_row_g rfl 31 _ rfl (w.heap.size + 1) rfl 31 _ (0, 0) _ hs3.out.ob Tryd.underlying31 rfl (by rw [h39'.out]; exact hi39'.out) ?_))
  refine (rchk_to hb'.out hs3.out.bel (hbE.out ())).mono ?_
  rintro e w4 ⟨rfl, b4⟩
  have hs4 := Lib.hid (hs3.out.below b4)
  have oa4' := Lib.hid (oa3'.out.below b4 fun k hk => (oa3'.out.lt k hk).2)
  clear oa3'
  clear hs3 b4
  go_wp2_with fail
  go_ret
  exact ⟨rfl, hs4.out.bel⟩

set_option maxRecDepth 100000 in
set_option maxHeartbeats 4000000 in
theorem unlike_oo (w : World) (a b : ObjT) (p q : Lay) (ha : EncIn w a p) (hb : EncIn w b q) (haz : encE a = 0) (hbz : encE b = 0) :
    Calls Tryd.prog 4 #[.agg (ocells a p).toArray, .agg (ocells b q).toArray] w fun e w' => e = .returned (.bool true) ∧ Below w.heap.size w w' := by
  have hi39 : (Tryd.prog.info? 31).map (·.size) = some 39 := by kernel_rfl
  have hi39' := Lib.hid hi39
  have h39' := Lib.hid (fun (x : ObjT) (q : Lay) => show (ocells x q).toArray.size = 39 by simp [ocells_length])
  have hB : Below w.heap.size w ((w.alloc (.cells (ocells a p).toArray 31)).alloc (.cells (ocells b q).toArray 31)) := ((Below.refl _ _).alloc (Nat.le_refl _) _).alloc (by simp) _
  have hs0 := Lib.hid (show UnS w ((w.alloc (.cells (ocells a p).toArray 31)).alloc (.cells (ocells b q).toArray 31)) a b p q from ⟨hB, heap_alloc2_old w _ _, heap_alloc2_new w _ _⟩)
  have ha' := Lib.hid ha
  have hb' := Lib.hid hb
  have ha0 := Lib.hid haz
  have haE : Hid (∀ _ : Unit, encE a = 0) := Lib.hid fun _ => ha0.out
  obtain ⟨na, han⟩ : ∃ n, Hid (∀ _ : Unit, (layL a).length = n) := ⟨_, Lib.hid fun _ => rfl⟩
  clear haz
  have hb0 := Lib.hid hbz
  have hbE : Hid (∀ _ : Unit, encE b = 0) := Lib.hid fun _ => hb0.out
  obtain ⟨nb, hbn⟩ : ∃ n, Hid (∀ _ : Unit, (layL b).length = n) := ⟨_, Lib.hid fun _ => rfl⟩
  clear hbz
  clear ha hb hi39 hB
  go_enter Tryd.func4, Tryd.ntmps4
  go_wp2_with (first
    | (refine wpList_load_row_g rfl 31 _ rfl w.heap.size rfl 31 _ (0, 0) _ hs0.out.oa Tryd.underlying31 rfl (by rw [h39'.out]; exact hi39'.out) ?_))
  refine (encode_ok _ a p (enc_to ha'.out hs0.out.bel) ha0.out (han.out ())).mono ?_
  rintro e w1 ⟨⟨Aa, ca, rfl, oa⟩, b1⟩
  have hs1 := Lib.hid (hs0.out.below b1)
  have oa' := Lib.hid oa
  clear hs0 b1 oa
  go_wp2_with (first | (refine wpList_load_row_g rfl 31 _ rfl (w.heap.size + 1) rfl 31 _ (0, 0) _ hs1.out.ob Tryd.underlying31 rfl (by rw [h39'.out]; exact hi39'.out) ?_))
  refine (encode_ok _ b q (enc_to hb'.out hs1.out.bel) hb0.out (hbn.out ())).mono ?_
  rintro e w2 ⟨⟨Ab, cb, rfl, ob⟩, b2⟩
  have hs2 := Lib.hid (hs1.out.below b2)
  have ob' := Lib.hid ob
  have oa2' := Lib.hid (oa'.out.below b2 fun k hk => (oa'.out.lt k hk).2)
  clear oa'
  clear hs1 b2 ob
  go_wp2_with (first | (refine wpList_load_row_g rfl 31 _ rfl w.heap.size rfl 31 _ (0, 0) _ hs2.out.oa Tryd.underlying31 rfl (by rw [h39'.out]; exact hi39'.out) ?_))
  refine (rchk_to ha'.out hs2.out.bel (haE.out ())).mono ?_
  rintro e w3 ⟨rfl, b3⟩
  have hs3 := Lib.hid (hs2.out.below b3)
  have oa3' := Lib.hid (oa2'.out.below b3 fun k hk => (oa2'.out.lt k hk).2)
  clear oa2'
  have ob3' := Lib.hid (ob'.out.below b3 fun k hk => (ob'.out.lt k hk).2)
  clear ob'
  clear hs2 b3
  go_wp2_with (first | (refine wpList_load_row_g rfl 31 _ rfl (w.heap.size + 1) rfl 31 _ (0, 0) _ hs3.out.ob Tryd.underlying31 rfl (by rw [h39'.out]; exact hi39'.out) ?_))
  refine (rchk_to hb'.out hs3.out.bel (hbE.out ())).mono ?_
  rintro e w4 ⟨rfl, b4⟩
  have hs4 := Lib.hid (hs3.out.below b4)
  have oa4' := Lib.hid (oa3'.out.below b4 fun k hk => (oa3'.out.lt k hk).2)
  clear oa3'
  have ob4' := Lib.hid (ob3'.out.below b4 fun k hk => (ob3'.out.lt k hk).2)
  clear ob3'
  clear hs3 b4
  obtain ⟨R, hR⟩ : ∃ R, Hid (∀ _ : Unit, sameO a b = R) := ⟨_, Lib.hid fun _ => rfl⟩
  have hcv : Hid (decide (layL a = layL b) = R) := Lib.hid (by rw [← hR.out ()]; exact layL_iff ha0.out hb0.out ha'.out.good hb'.out.good)
  have la := Lib.hid (layL_lt ha'.out.good ha'.out.may.fit.b ha'.out.good.kind)
  have lb := Lib.hid (layL_lt hb'.out.good hb'.out.may.fit.b hb'.out.good.kind)
  obtain ⟨S, hS⟩ : ∃ S : World → Prop, S = fun W => UnS w W a b p q ∧ Own W 0 5 1 Aa na ca (u8s (layL a)) ∧ Own W 0 5 1 Ab nb cb (u8s (layL b)) := ⟨_, rfl⟩
  have s0 : Hid (S w4) := Lib.hid (by rw [hS]; exact ⟨hs4.out, oa4'.out.base (Nat.zero_le _), ob4'.out.base (Nat.zero_le _)⟩)
  have sA : Hid (∀ W, S W → W.rangeAt w.heap.size 0 (ocells a p)) := Lib.hid fun W h => by rw [hS] at h; exact OBlk.rangeO h.1.oa
  have sB : Hid (∀ W, S W → W.rangeAt (w.heap.size + 1) 0 (ocells b q)) := Lib.hid fun W h => by rw [hS] at h; exact OBlk.rangeO h.1.ob
  have sL : Hid (∀ W, S W → Below w.heap.size w W) := Lib.hid fun W h => by rw [hS] at h; exact h.1.bel
  have sK : Hid (∀ W W', S W → Below W.heap.size W W' → S W') := Lib.hid fun W W' h hb => by
    rw [hS] at h ⊢
    exact ⟨h.1.below hb, h.2.1.below hb fun k hk => (h.2.1.lt k hk).2, h.2.2.below hb fun k hk => (h.2.2.lt k hk).2⟩
  have cA : Hid (∀ W, S W → (convert 24 9 (.slice Aa na ca)).run Tryd.prog W = .ok (.string (strB (layL a))) W) := Lib.hid fun W h => by
    rw [hS] at h
    have := conv_bytes W (layL a) Aa ca _ h.2.1.byt la.out
    rwa [han.out ()] at this
  have cB : Hid (∀ W, S W → (convert 24 9 (.slice Ab nb cb)).run Tryd.prog W = .ok (.string (strB (layL b))) W) := Lib.hid fun W h => by
    rw [hS] at h
    have := conv_bytes W (layL b) Ab cb _ h.2.2.byt lb.out
    rwa [hbn.out ()] at this
  have rfS : Hid (∀ W, S W → Calls Tryd.prog 14 #[.agg (ocells a p).toArray, .agg (ocells b q).toArray] W fun e w' => e = .returned (.bool R) ∧ Below W.heap.size W w') := Lib.hid fun W h => by
    rw [← hR.out ()]
    exact refSame_any W a b p q ((ha'.out.may.oin.below (sL.out W h)).mono (sL.out W h).size) ((hb'.out.may.oin.below (sL.out W h)).mono (sL.out W h).size) ha'.out.may.fit hb'.out.may.fit
  have l39 : Hid (∀ o p, (ocells o p).length = 39) := Lib.hid ocells_length
  have hq : ∀ W, (binOp .eql 9 (.string (strB (layL a))) (.string (strB (layL b)))).run Tryd.prog W = .ok (.bool R) W := fun W => by
    rw [binOp_string_eql, strB_eq _ _ la.out lb.out, hcv.out]
    rfl
  clear hS hs4 oa4' ob4' la lb
  go_wp2_with fail
  refine wp_region_held (S := S) (by kernel_rfl) ?_
  change wpAnyH _ _ _ _ _ _ _ _ (World.drew _)
  have hd : Hid (S w4.drew) := Lib.hid (sK.out _ _ s0.out (below_drewN (Below.refl _ _) 1))
  refine wpAnyH_take (i := 0) rfl (by kernel_rfl) (by kernel_rfl) (by kernel_rfl) (fun _ _ _ h => h) (yieldsIf_mv (by rfl) _ rfl (.slice Aa na ca) rfl) hd.out ?_
  refine wpAnyH_take (i := 1) rfl (by kernel_rfl) (by kernel_rfl) (by kernel_rfl) (fun _ _ _ h => h) (yieldsIf_conv (by rfl) 24 9 _ rfl (.slice Aa na ca) rfl (.string (strB (layL a))) cA.out) hd.out ?_
  refine wpAnyH_take (i := 2) rfl (by kernel_rfl) (by kernel_rfl) (by kernel_rfl) (fun _ _ _ h => h) (yieldsIf_mv (by rfl) _ rfl (.slice Ab nb cb) rfl) hd.out ?_
  refine wpAnyH_take (i := 3) rfl (by kernel_rfl) (by kernel_rfl) (by kernel_rfl) (fun _ _ _ h => h) (yieldsIf_conv (by rfl) 24 9 _ rfl (.slice Ab nb cb) rfl (.string (strB (layL b))) cB.out) hd.out ?_
  refine wpAnyH_take (i := 4) rfl (by kernel_rfl) (by kernel_rfl) (by kernel_rfl) (fun _ _ _ h => h) (yieldsIf_bin (by rfl) .eql 9 _ _ _ rfl (.string (strB (layL a))) (.string (strB (layL b))) rfl rfl (.bool R) (fun _ => rfl) (fun W _ => hq W)) hd.out ?_
  refine wpAnyH_take (i := 5) rfl (by kernel_rfl) (by kernel_rfl) (by kernel_rfl) (fun _ _ _ h => h) (yieldsIf_load_mid (by rfl) 31 _ rfl w.heap.size 0 rfl (ocells a p) _ sA.out Tryd.underlying31 rfl (by rw [l39.out]; exact hi39'.out)) hd.out ?_
  refine wpAnyH_take (i := 6) rfl (by kernel_rfl) (by kernel_rfl) (by kernel_rfl) (fun _ _ _ h => h) (yieldsIf_load_mid (by rfl) 31 _ rfl (w.heap.size + 1) 0 rfl (ocells b q) _ sB.out Tryd.underlying31 rfl (by rw [l39.out]; exact hi39'.out)) hd.out ?_
  simp only [Act.put, List.setIfInBounds_toArray, List.set_cons_zero, List.set_cons_succ]
  clear hq cA cB hcv
  refine wpAnyH_ready (rs := [7]) (by kernel_rfl) (by simp) ?_
  refine AllReadyH.cons rfl (fun K hK => ?_) AllReadyH.nil
  go_simp
  go_wp2_with (go_at_call 14; refine (rfS.out _ hd.out).mono ?_; rintro e w5 ⟨rfl, b5⟩; skip)
  have hd5 := Lib.hid (sK.out _ _ hd.out b5)
  refine hK.out _ _ hd5.out (fun _ => ?_)
  clear hK K b5
  refine wpAnyH_ready (rs := [8]) (by kernel_rfl) (by simp) ?_
  refine AllReadyH.cons rfl (fun K hK => ?_) AllReadyH.nil
  go_simp
  refine hK.out _ _ hd5.out (fun _ => ?_)
  clear hK K
  refine wpAnyH_ready (rs := [9]) (by kernel_rfl) (by simp) ?_
  refine AllReadyH.cons rfl (fun K hK => ?_) AllReadyH.nil
  go_simp
  refine hK.out _ _ hd5.out (fun _ => ?_)
  clear hK K
  refine wpAnyH_done (by kernel_rfl) ?_ _
  go_wp2_with fail
  go_ret
  exact ⟨ret_bool (by simp), sL.out _ hd5.out⟩
theorem objectUnlike_any (w : World) (a b : ObjT) (p q : Lay) (ha : EncIn w a p) (hb : EncIn w b q) :
    Calls Tryd.prog 4 #[.agg (ocells a p).toArray, .agg (ocells b q).toArray] w fun e w' => e = .returned (.bool true) ∧ Below w.heap.size w w' := by
  by_cases h1 : encE a = 0
  · by_cases h2 : encE b = 0
    · exact unlike_oo w a b p q ha hb h1 h2
    · exact unlike_on w a b p q ha hb h1 h2
  · by_cases h2 : encE b = 0
    · exact unlike_no w a b p q ha hb h1 h2
    · exact unlike_nn w a b p q ha hb h1 h2
end Go.Proofs.YtkjndgapejbgcaaDoor

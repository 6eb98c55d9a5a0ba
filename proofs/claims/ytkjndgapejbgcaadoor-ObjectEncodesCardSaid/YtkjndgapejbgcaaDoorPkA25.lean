/- ObjectChecks: the law's walk. An object's bytes tell it: two objects that are taken are alike just if their bytes are: plain words. -/
import Derived.Test.YtkjndgapejbgcaaDoorPkA22
import Derived.Test.YtkjndgapejbgcaaDoorPkA23
import Derived.Test.YtkjndgapejbgcaaDoorPkA24
import Derived.Test.YtkjndgapejbgcaaDoorPkA8
import Derived.Test.YtkjndgapejbgcaaDoorPkA16
import Derived.Test.YtkjndgapejbgcaaDoorPkA18

namespace Go.Proofs.YtkjndgapejbgcaaDoor
open Go.RowKit
set_option linter.unusedSimpArgs false
set_option linter.unusedVariables false

set_option maxRecDepth 100000 in
set_option maxHeartbeats 2000000 in
theorem check_any (w : World) (o : ObjT) (p : Lay) (hm : EncIn w o p) :
    Calls Tryd.prog 16 #[.agg (ocells o p).toArray] w fun e w' => e = .returned (.int .i64 (encE o : Nat)) ∧ Below w.heap.size w w' := by
  have hi39 : (Tryd.prog.info? 31).map (·.size) = some 39 := by kernel_rfl
  have hi39' := Lib.hid hi39
  have h39' := Lib.hid (fun (x : ObjT) (q : Lay) => show (ocells x q).toArray.size = 39 by simp [ocells_length])
  have h0 : OBlk (w.alloc (.cells (ocells o p).toArray 31)) w.heap.size o p := heap_alloc_new w _
  have hB : Below w.heap.size w (w.alloc (.cells (ocells o p).toArray 31)) := (Below.refl _ _).alloc (Nat.le_refl _) _
  have hen := Lib.hid (encode_any _ o p ⟨⟨u8t_keep hm.may.tabs hB, (hm.may.oin.below hB).mono hB.size, hm.may.fit, hm.may.ps, hm.may.note⟩, hm.good⟩)
  have h0' := Lib.hid h0
  have hB' := Lib.hid hB
  clear hm h0 hB hi39
  go_enter Tryd.func16, Tryd.ntmps16
  go_wp2_with (first
    | (refine wpList_load_row rfl 31 _ rfl w.heap.size rfl 31 _ (0, 0) _ h0'.out Tryd.underlying31 rfl (by rw [h39'.out]; exact hi39'.out) ?_)
    | (go_at_call 12
       refine hen.out.mono ?_
       rintro e w2 ⟨⟨A, c, rfl, o2⟩, b2⟩
       have hB2 := Lib.hid (hB'.out.trans (b2.mono hB'.out.size))
       clear o2 b2 hen))
  go_ret
  exact ⟨rfl, hB2.out⟩

/-- The object and its copy. -/
structure CkS (w W : World) (o : ObjT) (p q : Lay) (S1 : Nat) : Prop where
  bel : Below w.heap.size w W
  ob : OBlk W w.heap.size o p
  oin : OBlk W S1 o q
  l : LentK W (w.heap.size + 1) o q 4
theorem CkS.below {w W W' : World} {o : ObjT} {p q : Lay} {S1 : Nat} (h : CkS w W o p q S1) (hb : Below W.heap.size W W') : CkS w W' o p q S1 :=
  ⟨h.bel.trans (hb.mono h.bel.size), h.ob.below hb (lt_of_block h.ob), h.oin.below hb (lt_of_block h.oin), h.l.below hb⟩
theorem chk_in {w W : World} {o : ObjT} {p : Lay} (h : ChkIn w o p) (hb : Below w.heap.size w W) : ChkIn W o p := ⟨(h.oin.below hb).mono hb.size, h.fit, h.good⟩
theorem refSame_self (W : World) (o : ObjT) (p q : Lay) (h1 : ObjIn W W.heap.size o p) (h2 : ObjIn W W.heap.size o q) (hf : Fit o) :
    Calls Tryd.prog 14 #[.agg (ocells o p).toArray, .agg (ocells o q).toArray] W fun e w' => e = .returned (.bool true) ∧ Below W.heap.size W w' := by
  have := refSame_any W o o p q h1 h2 hf hf
  rwa [sameO_self] at this

set_option maxRecDepth 100000 in
set_option maxHeartbeats 4000000 in
theorem objectChecks_any (w : World) (o : ObjT) (p : Lay) (hm : EncIn w o p) :
    Calls Tryd.prog 5 #[.agg (ocells o p).toArray] w fun e w' => e = .returned (.bool true) ∧ Below w.heap.size w w' := by
  have hz := zeroO
  have hi39 : (Tryd.prog.info? 31).map (·.size) = some 39 := by kernel_rfl
  have hi39' := Lib.hid hi39
  have h39' := Lib.hid (fun (x : ObjT) (q : Lay) => show (ocells x q).toArray.size = 39 by simp [ocells_length])
  have hone' := Lib.hid (fun q : Lay => show (ocells o q).toArray.all (·.oneCell') = true from all_oneCell_toArray (ocells_one o q))
  have hO0 : OBlk (w.alloc (.cells (ocells o p).toArray 31)) w.heap.size o p := heap_alloc_new w _
  have hB0 : Below w.heap.size w (w.alloc (.cells (ocells o p).toArray 31)) := (Below.refl _ _).alloc (Nat.le_refl _) _
  obtain ⟨E, hE⟩ : ∃ E, Hid (∀ _ : Unit, encE o = E) := ⟨_, Lib.hid fun _ => rfl⟩
  have hE2 : Hid (∀ _ : Unit, chkE o = E) := Lib.hid fun _ => by rw [← encE_eq]; exact hE.out ()
  have hm' := Lib.hid hm
  have hck := Lib.hid (show ChkIn w o p from ⟨hm.may.oin, hm.may.fit, hm.good⟩)
  have hO0' := Lib.hid hO0
  have hB0' := Lib.hid hB0
  clear hm hi39 hO0 hB0
  go_enter Tryd.func5, Tryd.ntmps5
  go_wp2_with (first
    | (refine wpList_load_row_g rfl 31 _ rfl w.heap.size rfl 31 _ (0, 0) _ hO0'.out Tryd.underlying31 rfl (by rw [h39'.out]; exact hi39'.out) ?_)
    | (go_at_call 15
       refine (copied_any _ o p ((hm'.out.may.oin.below hB0'.out).mono hB0'.out.size) hm'.out.may.fit).mono ?_
       rintro e w2 ⟨⟨q, rfl, hl⟩, b2⟩
       have hl2' := Lib.hid (hl.base (B' := w.heap.size + 1) (lt_of_block hO0'.out))
       have hO2' := Lib.hid (hO0'.out.below b2 (lt_of_block hO0'.out))
       have hB2' := Lib.hid (hB0'.out.trans (b2.mono hB0'.out.size))
       clear hl b2 hO0' hB0'
       skip)
    | (refine wpList_store_row rfl 31 _ _ rfl w2.heap.size (ocells o q).toArray rfl rfl 31 _ (heap_alloc_new w2 _) (by rw [h39'.out]; exact hi39'.out) (by rw [h39'.out, h39'.out]) (hone'.out _) ?_
       have hnw := row_new w2 31 (ocells oZ pZ).toArray (ocells o q).toArray
       have hbb := hnw.2 w2.heap.size (Nat.le_refl _)
       generalize ((w2.alloc (.cells (ocells oZ pZ).toArray 31)).setRow w2.heap.size (ocells o q).toArray) = w3 at hnw hbb ⊢
       have hs3 := Lib.hid (show CkS w w3 o p q w2.heap.size from ⟨hB2'.out.trans (hbb.mono hB2'.out.size), hO2'.out.below hbb (lt_of_block hO2'.out), hnw.1, hl2'.out.below hbb⟩)
       clear hnw hbb hl2' hO2' hB2'
       generalize w2.heap.size = S1 at hs3 ⊢
       skip)
    | (refine wpList_load_row_g rfl 31 _ rfl S1 rfl 31 _ (0, 0) _ hs3.out.oin Tryd.underlying31 rfl (by rw [h39'.out]; exact hi39'.out) ?_)
    | (go_at_call 16
       refine (check_any _ o q ⟨⟨u8t_keep hm'.out.may.tabs hs3.out.bel, hs3.out.l.objIn, hm'.out.may.fit, hm'.out.may.ps, hm'.out.may.note⟩, hm'.out.good⟩).mono ?_
       rintro e w4 ⟨rfl, b4⟩
       rw [hE.out ()]
       have hs4 := Lib.hid (hs3.out.below b4)
       clear b4 hs3
       skip)
    | (refine wpList_load_row_g rfl 31 _ rfl w.heap.size rfl 31 _ (0, 0) _ hs4.out.ob Tryd.underlying31 rfl (by rw [h39'.out]; exact hi39'.out) ?_)
    | (go_at_call 13
       refine (rchk_any _ o p (chk_in hck.out hs4.out.bel)).mono ?_
       rintro e w5 ⟨rfl, b5⟩
       rw [hE2.out ()]
       have hs5 := Lib.hid (hs4.out.below b5)
       clear b5 hs4
       skip)
    | (refine wpList_load_row_g rfl 31 _ rfl S1 rfl 31 _ (0, 0) _ hs5.out.oin Tryd.underlying31 rfl (by rw [h39'.out]; exact hi39'.out) ?_)
    | (refine wpList_load_row_g rfl 31 _ rfl w.heap.size rfl 31 _ (0, 0) _ hs5.out.ob Tryd.underlying31 rfl (by rw [h39'.out]; exact hi39'.out) ?_)
    | (go_at_call 14
       refine (refSame_self _ o q p hs5.out.l.objIn ((hm'.out.may.oin.below hs5.out.bel).mono hs5.out.bel.size) hm'.out.may.fit).mono ?_
       rintro e w6 ⟨rfl, b6⟩
       have hs6 := Lib.hid (hs5.out.below b6)
       clear b6 hs5
       skip)
    | (refine wpList_load_row_g rfl 31 _ rfl S1 rfl 31 _ (0, 0) _ hs6.out.oin Tryd.underlying31 rfl (by rw [h39'.out]; exact hi39'.out) ?_)
    | (go_at_call 17
       refine (left_any _ o q _ hs6.out.l hm'.out.may.fit).mono ?_
       rintro e w7 ⟨rfl, b7⟩
       have hs7 := Lib.hid (hs6.out.below b7)
       clear b7 hs6
       skip))
  go_ret
  exact ⟨rfl, hs7.out.bel⟩
end Go.Proofs.YtkjndgapejbgcaaDoor

namespace Go.Proofs.YtkjndgapejbgcaaDoor
open Go.RowKit
set_option linter.unusedSimpArgs false
set_option linter.unusedVariables false

theorem varF_inj : ∀ (f u v : Nat) (x y : List Nat), u < 128 ^ f → v < 128 ^ f → varF f u ++ x = varF f v ++ y → u = v ∧ x = y
  | 0, u, v, x, y, hu, hv, h => by
    simp at hu hv
    subst hu hv
    exact ⟨rfl, by simpa [varF] using h⟩
  | f + 1, u, v, x, y, hu, hv, h => by
    unfold varF at h
    rw [Nat.pow_succ, Nat.mul_comm] at hu hv
    by_cases h1 : u < 128
    · rw [if_pos h1] at h
      by_cases h2 : v < 128
      · rw [if_pos h2] at h
        simp only [List.singleton_append, List.cons.injEq] at h
        exact h
      · rw [if_neg h2] at h
        simp only [List.singleton_append, List.cons_append, List.cons.injEq] at h
        omega
    · rw [if_neg h1] at h
      by_cases h2 : v < 128
      · rw [if_pos h2] at h
        simp only [List.singleton_append, List.cons_append, List.cons.injEq] at h
        omega
      · rw [if_neg h2] at h
        simp only [List.cons_append, List.cons.injEq] at h
        obtain ⟨h3, h4⟩ := varF_inj f (u / 128) (v / 128) x y (Nat.div_lt_of_lt_mul hu) (Nat.div_lt_of_lt_mul hv) h.2
        exact ⟨by omega, h4⟩
theorem varL_inj {u v : Nat} {x y : List Nat} (hu : u < 18446744073709551616) (hv : v < 18446744073709551616) (h : varL u ++ x = varL v ++ y) : u = v ∧ x = y :=
  varF_inj 10 u v x y (by omega) (by omega) h
theorem app_inj {α : Type} {a b x y : List α} (hl : a.length = b.length) (h : a ++ x = b ++ y) : a = b ∧ x = y := List.append_inj h hl
theorem key_inj {a b : Key32} {x y : List Nat} (h : a.1 ++ x = b.1 ++ y) : a = b ∧ x = y := by
  obtain ⟨h1, h2⟩ := app_inj (by rw [a.2, b.2]) h
  exact ⟨Subtype.ext h1, h2⟩
theorem strL_inj {s t : ByteArray} (h : strL s = strL t) : s = t := by
  obtain ⟨⟨a⟩⟩ := s
  obtain ⟨⟨b⟩⟩ := t
  simp only [strL] at h
  congr 2
  induction a generalizing b with
  | nil => cases b <;> simp_all
  | cons x a ih =>
    cases b with
    | nil => simp at h
    | cons y b =>
      simp only [List.map_cons, List.cons.injEq] at h
      rw [UInt8.toNat_inj.1 h.1, ih b h.2]
theorem text_inj {s t : ByteArray} {x y : List Nat} (hs : s.size < 18446744073709551616) (ht : t.size < 18446744073709551616) (h : varL s.size ++ (strL s ++ x) = varL t.size ++ (strL t ++ y)) : s = t ∧ x = y := by
  obtain ⟨h1, h2⟩ := varL_inj hs ht h
  obtain ⟨h3, h4⟩ := app_inj (by rw [strL_length, strL_length, h1]) h2
  exact ⟨strL_inj h3, h4⟩
theorem fixF_inj : ∀ (n u v : Nat), u < 256 ^ n → v < 256 ^ n → fixF n u = fixF n v → u = v
  | 0, u, v, hu, hv, _ => by simp at hu hv; omega
  | n + 1, u, v, hu, hv, h => by
    unfold fixF at h
    simp only [List.cons.injEq] at h
    rw [Nat.pow_succ, Nat.mul_comm] at hu hv
    have := fixF_inj n (u / 256) (v / 256) (Nat.div_lt_of_lt_mul hu) (Nat.div_lt_of_lt_mul hv) h.2
    omega
theorem flat_inj {α : Type} {f : α → List Nat} {ok : α → Prop} (hf : ∀ a b x y, ok a → ok b → f a ++ x = f b ++ y → a = b ∧ x = y) : ∀ (l m : List α) (x y : List Nat), (∀ a ∈ l, ok a) → (∀ a ∈ m, ok a) → l.length = m.length → l.flatMap f ++ x = m.flatMap f ++ y → l = m ∧ x = y
  | [], [], x, y, _, _, _, h => ⟨rfl, by simpa using h⟩
  | [], _ :: _, _, _, _, _, h, _ => by simp at h
  | _ :: _, [], _, _, _, _, h, _ => by simp at h
  | a :: l, b :: m, x, y, hl, hm, h, he => by
    simp only [List.flatMap_cons, List.append_assoc] at he
    obtain ⟨h1, h2⟩ := hf a b _ _ (hl a (by simp)) (hm b (by simp)) he
    obtain ⟨h3, h4⟩ := flat_inj hf l m x y (fun z hz => hl z (by simp [hz])) (fun z hz => hm z (by simp [hz])) (by simpa using h) h2
    exact ⟨by rw [h1, h3], h4⟩
theorem oneP_inj (a b : PartT) (x y : List Nat) (ha : okP a) (hb : okP b) (h : oneP a ++ x = oneP b ++ y) : a = b ∧ x = y := by
  unfold oneP at h
  rw [List.append_assoc, List.append_assoc] at h
  obtain ⟨h1, h2⟩ := key_inj h
  obtain ⟨h3, h4⟩ := varL_inj ha.2 hb.2 h2
  exact ⟨Prod.ext h1 h3, h4⟩
theorem max64 {n : Nat} (h : n ≤ maxLen) : n < 18446744073709551616 := by unfold maxLen at h; omega
theorem oneI_inj (a b : ItemT) (x y : List Nat) (ha : okI a) (hb : okI b) (h : oneI a ++ x = oneI b ++ y) : a = b ∧ x = y := by
  unfold oneI at h
  simp only [List.append_assoc] at h
  obtain ⟨h1, h2⟩ := text_inj (max64 ha.1) (max64 hb.1) h
  simp only [List.singleton_append, List.cons.injEq] at h2
  obtain ⟨h3, h4⟩ := varL_inj ha.2.2.1 hb.2.2.1 h2.2
  obtain ⟨h5, h6⟩ := key_inj h4
  exact ⟨Prod.ext h1 (Prod.ext h2.1 (Prod.ext h3 h5)), h6⟩
theorem oneK_inj (a b : Key32) (x y : List Nat) (ha : True) (hb : True) (h : oneK a ++ x = oneK b ++ y) : a = b ∧ x = y := key_inj h

theorem sameO_iff (a b : ObjT) : sameO a b = true ↔ a.kind = b.kind ∧ a.data = b.data ∧ a.parts = b.parts ∧ a.items = b.items ∧ a.tree = b.tree ∧ a.parents = b.parents ∧ a.time = b.time ∧ a.note = b.note := by
  unfold sameO
  simp only [Bool.and_eq_true, decide_eq_true_eq, and_assoc]
theorem refFor_rest (o : ObjT) (h : refFor o = false) (h4 : o.kind ≠ 4) : o.tree = zK ∧ o.time = 0 ∧ o.note = ⟨#[]⟩ := by
  unfold refFor at h
  simp only [Bool.or_eq_false_iff, Bool.and_eq_false_iff, decide_eq_false_iff_not, Bool.not_eq_false', decide_eq_true_eq] at h
  rcases h.2 with h1 | h1
  · exact absurd h4 h1
  · exact ⟨h1.1.1.1, h1.1.2, h1.2⟩
/-- What is taken. -/
structure Taken (o : ObjT) : Prop where
  may : MayB o
  good : Good o
theorem layL_inj {a b : ObjT} (ha : Taken a) (hb : Taken b) (h : layL a = layL b) : sameO a b = true := by
  have hk : a.kind = b.kind := by
    unfold layL at h
    simp only [List.singleton_append, List.cons.injEq] at h
    exact h.1
  have h' := h
  unfold layL at h'
  simp only [List.singleton_append, List.cons.injEq] at h'
  have h2 := h'.2
  clear h'
  obtain ⟨a1, a2, a3, a4⟩ := refFor_own a ha.may.hf
  obtain ⟨b1, b2, b3, b4⟩ := refFor_own b hb.may.hf
  rw [sameO_iff]
  have k1 := ha.may.k1
  have k4 := ha.may.k4
  have hp1 := ha.may.ps; have hp2 := hb.may.ps
  have hx1 := ha.may.xs; have hx2 := hb.may.xs
  have hq1 := ha.may.ks; have hq2 := hb.may.ks
  rcases (by omega : a.kind = 1 ∨ a.kind = 2 ∨ a.kind = 3 ∨ a.kind = 4) with k | k | k | k
  · have kb : b.kind = 1 := by omega
    rw [if_pos k, if_pos kb] at h2
    obtain ⟨r1, r2, r3⟩ := refFor_rest a ha.may.hf (by omega)
    obtain ⟨s1, s2, s3⟩ := refFor_rest b hb.may.hf (by omega)
    exact ⟨hk, h2, by rw [a2 (by omega), b2 (by omega)], by rw [a3 (by omega), b3 (by omega)], by rw [r1, s1], by rw [a4 (by omega), b4 (by omega)], by rw [r2, s2], by rw [r3, s3]⟩
  · have kb : b.kind = 2 := by omega
    rw [if_neg (by omega), if_pos k, if_neg (by omega), if_pos kb] at h2
    obtain ⟨r1, r2, r3⟩ := refFor_rest a ha.may.hf (by omega)
    obtain ⟨s1, s2, s3⟩ := refFor_rest b hb.may.hf (by omega)
    obtain ⟨e1, e2⟩ := varL_inj (by omega) (by omega) h2
    obtain ⟨e3, _⟩ := flat_inj oneP_inj a.parts b.parts [] [] ha.good.ps hb.good.ps e1 (by simpa using e2)
    exact ⟨hk, by rw [a1 (by omega), b1 (by omega)], e3, by rw [a3 (by omega), b3 (by omega)], by rw [r1, s1], by rw [a4 (by omega), b4 (by omega)], by rw [r2, s2], by rw [r3, s3]⟩
  · have kb : b.kind = 3 := by omega
    rw [if_neg (by omega), if_neg (by omega), if_pos k, if_neg (by omega), if_neg (by omega), if_pos kb] at h2
    obtain ⟨r1, r2, r3⟩ := refFor_rest a ha.may.hf (by omega)
    obtain ⟨s1, s2, s3⟩ := refFor_rest b hb.may.hf (by omega)
    obtain ⟨e1, e2⟩ := varL_inj (by omega) (by omega) h2
    obtain ⟨e3, _⟩ := flat_inj oneI_inj a.items b.items [] [] ha.good.xs hb.good.xs e1 (by simpa using e2)
    exact ⟨hk, by rw [a1 (by omega), b1 (by omega)], by rw [a2 (by omega), b2 (by omega)], e3, by rw [r1, s1], by rw [a4 (by omega), b4 (by omega)], by rw [r2, s2], by rw [r3, s3]⟩
  · have kb : b.kind = 4 := by omega
    rw [if_neg (by omega), if_neg (by omega), if_neg (by omega), if_pos k, if_neg (by omega), if_neg (by omega), if_neg (by omega), if_pos kb] at h2
    unfold layT at h2
    simp only [List.append_assoc] at h2
    obtain ⟨e1, h3⟩ := key_inj h2
    obtain ⟨e2, h4⟩ := varL_inj (by omega) (by omega) h3
    obtain ⟨e3, h5⟩ := flat_inj oneK_inj a.parents b.parents _ _ (fun _ _ => trivial) (fun _ _ => trivial) e2 h4
    obtain ⟨e4, h6⟩ := app_inj (by rw [fixF_length, fixF_length]) h5
    have ta := ha.good.time
    have tb := hb.good.time
    have e5 := fixF_inj 8 _ _ (by omega) (by omega) e4
    obtain ⟨e6, _⟩ := text_inj (x := []) (y := []) (max64 ha.good.note) (max64 hb.good.note) (by simpa using h6)
    exact ⟨hk, by rw [a1 (by omega), b1 (by omega)], by rw [a2 (by omega), b2 (by omega)], by rw [a3 (by omega), b3 (by omega)], e1, e3, by omega, e6⟩
theorem layL_same {a b : ObjT} (h : sameO a b = true) : layL a = layL b := by
  obtain ⟨h1, h2, h3, h4, h5, h6, h7, h8⟩ := (sameO_iff a b).1 h
  unfold layL layT
  rw [h1, h2, h3, h4, h5, h6, h7, h8]
theorem encE_taken {o : ObjT} (h : encE o = 0) : mayE o = 0 := by
  unfold encE at h
  by_cases h1 : mayE o = 0
  · exact h1
  · rw [if_pos h1] at h
    exact h
theorem layL_iff {a b : ObjT} (ha : encE a = 0) (hb : encE b = 0) (ga : Good a) (gb : Good b) : decide (layL a = layL b) = sameO a b := by
  have ta : Taken a := ⟨mayE_bounds (encE_taken ha), ga⟩
  have tb : Taken b := ⟨mayE_bounds (encE_taken hb), gb⟩
  cases hs : sameO a b with
  | true => exact decide_eq_true (layL_same hs)
  | false => exact decide_eq_false fun h => by rw [layL_inj ta tb h] at hs; cases hs
theorem varL_lt (v : Nat) : ∀ x ∈ varL v, x < 256 := by
  have key : ∀ f v, ∀ x ∈ varF f v, x < 256 := by
    intro f
    induction f with
    | zero => intro v x hx; simp [varF] at hx
    | succ f ih =>
      intro v x hx
      unfold varF at hx
      split at hx
      · simp at hx; omega
      · rcases List.mem_cons.1 hx with rfl | hx
        · omega
        · exact ih _ x hx
  exact key 10 v
theorem fixF_lt : ∀ n v, ∀ x ∈ fixF n v, x < 256
  | 0, v, x, hx => by simp [fixF] at hx
  | n + 1, v, x, hx => by
    unfold fixF at hx
    rcases List.mem_cons.1 hx with rfl | hx
    · omega
    · exact fixF_lt n _ x hx
theorem layL_lt {o : ObjT} (hg : Good o) (hd : ∀ x ∈ o.data, x < 256) (hk : o.kind < 256) : ∀ x ∈ layL o, x < 256 := by
  intro x hx
  unfold layL layT at hx
  have hO : ∀ y ∈ o.parts, ∀ x ∈ oneP y, x < 256 := fun y hy x hx => by
    unfold oneP at hx
    rcases List.mem_append.1 hx with h | h
    · exact (hg.ps y hy).1 x h
    · exact varL_lt _ x h
  have hI : ∀ y ∈ o.items, ∀ x ∈ oneI y, x < 256 := fun y hy x hx => by
    unfold oneI at hx
    simp only [List.mem_append, List.mem_singleton] at hx
    obtain ⟨_, h2, _, h4⟩ := hg.xs y hy
    rcases hx with (((h | h) | h) | h) | h
    · exact varL_lt _ x h
    · exact strL_lt _ x h
    · omega
    · exact varL_lt _ x h
    · exact h4 x h
  simp only [List.mem_append, List.mem_singleton] at hx
  rcases hx with h | h
  · omega
  · split at h
    · exact hd x h
    · split at h
      · rcases List.mem_append.1 h with h | h
        · exact varL_lt _ x h
        · obtain ⟨y, hy, hx⟩ := List.mem_flatMap.1 h
          exact hO y hy x hx
      · split at h
        · rcases List.mem_append.1 h with h | h
          · exact varL_lt _ x h
          · obtain ⟨y, hy, hx⟩ := List.mem_flatMap.1 h
            exact hI y hy x hx
        · split at h
          · simp only [List.mem_append] at h
            rcases h with (((h | h) | h) | h) | (h | h)
            · exact hg.tree x h
            · exact varL_lt _ x h
            · obtain ⟨y, hy, hx⟩ := List.mem_flatMap.1 h
              exact hg.ks y hy x hx
            · exact fixF_lt _ _ x h
            · exact varL_lt _ x h
            · exact strL_lt _ x h
          · simp at h
end Go.Proofs.YtkjndgapejbgcaaDoor

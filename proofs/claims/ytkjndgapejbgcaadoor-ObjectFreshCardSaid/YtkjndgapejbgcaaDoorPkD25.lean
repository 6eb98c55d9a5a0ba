/- ObjectChecks: the law's walk. ObjectChecks: the argument opened. The object that some bytes would be: plain words, and what they keep to. What takes an object's fields off a decoder: object.reader's four. -/
import Derived.Test.YtkjndgapejbgcaaDoorPkD22
import Derived.Test.YtkjndgapejbgcaaDoorPkD23
import Derived.Test.YtkjndgapejbgcaaDoorPkD24
import Derived.Test.YtkjndgapejbgcaaDoorPkD11
import Derived.Test.YtkjndgapejbgcaaDoorPkD18
import Derived.Test.YtkjndgapejbgcaaDoorPkD13

namespace Go.Proofs.YtkjndgapejbgcaaDoor
open Go.RowKit
set_option linter.unusedSimpArgs false
set_option linter.unusedVariables false

set_option maxRecDepth 100000 in
set_option maxHeartbeats 2000000 in
theorem check_any (w : World) (o : ObjT) (p : Lay) (hm : EncIn w o p) :
    Calls Tryd.prog 16 #[.agg (ocells o p).toArray] w fun e w' => e = .returned (.int .i64 (encE o : Nat)) ∧ Below w.heap.size w w' := by
  have hi39 : (Tryd.prog.info? 31).map (·.size) = some 39 := by kernel_rfl
  have hi39' := Lib.hid hi39
  have h39' := Lib.hid (fun (x : ObjT) (q : Lay) => show (ocells x q).toArray.size = 39 by simp [ocells_length])
  have h0 : OBlk (w.alloc (.cells (ocells o p).toArray 31)) w.heap.size o p := heap_alloc_new w _
  have hB : Below w.heap.size w (w.alloc (.cells (ocells o p).toArray 31)) := (Below.refl _ _).alloc (Nat.le_refl _) _
  have hen := Lib.hid (encode_any _ o p ⟨⟨u8t_keep hm.may.tabs hB, (hm.may.oin.below hB).mono hB.size, hm.may.fit, hm.may.ps, hm.may.note⟩, hm.good⟩)
  have h0' := Lib.hid h0
  have hB' := Lib.hid hB
  clear hm h0 hB hi39
  go_enter Tryd.func16, Tryd.ntmps16
  go_wp2_with (first
    | (refine wpList_load_row rfl 31 _ rfl w.heap.size rfl 31 _ (0, 0) _ h0'.out Tryd.underlying31 rfl (by rw [h39'.out]; exact hi39'.out) ?_)
    | (go_at_call 12
       refine hen.out.mono ?_
       rintro e w2 ⟨⟨A, c, rfl, o2⟩, b2⟩
       have hB2 := Lib.hid (hB'.out.trans (b2.mono hB'.out.size))
       clear o2 b2 hen))
  go_ret
  exact ⟨rfl, hB2.out⟩

/-- The object and its copy. -/
structure CkS (w W : World) (o : ObjT) (p q : Lay) (S1 : Nat) : Prop where
  bel : Below w.heap.size w W
  ob : OBlk W w.heap.size o p
  oin : OBlk W S1 o q
  l : LentK W (w.heap.size + 1) o q 4
theorem CkS.below {w W W' : World} {o : ObjT} {p q : Lay} {S1 : Nat} (h : CkS w W o p q S1) (hb : Below W.heap.size W W') : CkS w W' o p q S1 :=
  ⟨h.bel.trans (hb.mono h.bel.size), h.ob.below hb (lt_of_block h.ob), h.oin.below hb (lt_of_block h.oin), h.l.below hb⟩
theorem chk_in {w W : World} {o : ObjT} {p : Lay} (h : ChkIn w o p) (hb : Below w.heap.size w W) : ChkIn W o p := ⟨(h.oin.below hb).mono hb.size, h.fit, h.good⟩
theorem refSame_self (W : World) (o : ObjT) (p q : Lay) (h1 : ObjIn W W.heap.size o p) (h2 : ObjIn W W.heap.size o q) (hf : Fit o) :
    Calls Tryd.prog 14 #[.agg (ocells o p).toArray, .agg (ocells o q).toArray] W fun e w' => e = .returned (.bool true) ∧ Below W.heap.size W w' := by
  have := refSame_any W o o p q h1 h2 hf hf
  rwa [sameO_self] at this

set_option maxRecDepth 100000 in
set_option maxHeartbeats 4000000 in
theorem objectChecks_any (w : World) (o : ObjT) (p : Lay) (hm : EncIn w o p) :
    Calls Tryd.prog 5 #[.agg (ocells o p).toArray] w fun e w' => e = .returned (.bool true) ∧ Below w.heap.size w w' := by
  have hz := zeroO
  have hi39 : (Tryd.prog.info? 31).map (·.size) = some 39 := by kernel_rfl
  have hi39' := Lib.hid hi39
  have h39' := Lib.hid (fun (x : ObjT) (q : Lay) => show (ocells x q).toArray.size = 39 by simp [ocells_length])
  have hone' := Lib.hid (fun q : Lay => show (ocells o q).toArray.all (·.oneCell') = true from all_oneCell_toArray (ocells_one o q))
  have hO0 : OBlk (w.alloc (.cells (ocells o p).toArray 31)) w.heap.size o p := heap_alloc_new w _
  have hB0 : Below w.heap.size w (w.alloc (.cells (ocells o p).toArray 31)) := (Below.refl _ _).alloc (Nat.le_refl _) _
  obtain ⟨E, hE⟩ : ∃ E, Hid (∀ _ : Unit, encE o = E) := ⟨_, Lib.hid fun _ => rfl⟩
  have hE2 : Hid (∀ _ : Unit, chkE o = E) := Lib.hid fun _ => by rw [← encE_eq]; exact hE.out ()
  have hm' := Lib.hid hm
  have hck := Lib.hid (show ChkIn w o p from ⟨hm.may.oin, hm.may.fit, hm.good⟩)
  have hO0' := Lib.hid hO0
  have hB0' := Lib.hid hB0
  clear hm hi39 hO0 hB0
  go_enter Tryd.func5, Tryd.ntmps5
  go_wp2_with (first
    | (refine wpList_load_row_g rfl 31 _ rfl w.heap.size rfl 31 _ (0, 0) _ hO0'.out Tryd.underlying31 rfl (by rw [h39'.out]; exact hi39'.out) ?_)
    | (go_at_call 15
       refine (copied_any _ o p ((hm'.out.may.oin.below hB0'.out).mono hB0'.out.size) hm'.out.may.fit).mono ?_
       rintro e w2 ⟨⟨q, rfl, hl⟩, b2⟩
       have hl2' := Lib.hid (hl.base (B' := w.heap.size + 1) (lt_of_block hO0'.out))
       have hO2' := Lib.hid (hO0'.out.below b2 (lt_of_block hO0'.out))
       have hB2' := Lib.hid (hB0'.out.trans (b2.mono hB0'.out.size))
       clear hl b2 hO0' hB0'
       skip)
    | (refine wpList_store_row rfl 31 _ _ rfl w2.heap.size (ocells o q).toArray rfl rfl 31 _ (heap_alloc_new w2 _) (by rw [h39'.out]; exact hi39'.out) (by rw [h39'.out, h39'.out]) (hone'.out _) ?_
       have hnw := row_new w2 31 (ocells oZ pZ).toArray (ocells o q).toArray
       have hbb := hnw.2 w2.heap.size (Nat.le_refl _)
       generalize ((w2.alloc (.cells (ocells oZ pZ).toArray 31)).setRow w2.heap.size (ocells o q).toArray) = w3 at hnw hbb ⊢
       have hs3 := Lib.hid (show CkS w w3 o p q w2.heap.size from ⟨hB2'.out.trans (hbb.mono hB2'.out.size), hO2'.out.below hbb (lt_of_block hO2'.out), hnw.1, hl2'.out.below hbb⟩)
       clear hnw hbb hl2' hO2' hB2'
       generalize w2.heap.size = S1 at hs3 ⊢
       skip)
    | (refine wpList_load_row_g rfl 31 _ rfl S1 rfl 31 _ (0, 0) _ hs3.out.oin Tryd.underlying31 rfl (by rw [h39'.out]; exact hi39'.out) ?_)
    | (go_at_call 16
       refine (check_any _ o q ⟨⟨u8t_keep hm'.out.may.tabs hs3.out.bel, hs3.out.l.objIn, hm'.out.may.fit, hm'.out.may.ps, hm'.out.may.note⟩, hm'.out.good⟩).mono ?_
       rintro e w4 ⟨rfl, b4⟩
       rw [hE.out ()]
       have hs4 := Lib.hid (hs3.out.below b4)
       clear b4 hs3
       skip)
    | (refine wpList_load_row_g rfl 31 _ rfl w.heap.size rfl 31 _ (0, 0) _ hs4.out.ob Tryd.underlying31 rfl (by rw [h39'.out]; exact hi39'.out) ?_)
    | (go_at_call 13
       refine (rchk_any _ o p (chk_in hck.out hs4.out.bel)).mono ?_
       rintro e w5 ⟨rfl, b5⟩
       rw [hE2.out ()]
       have hs5 := Lib.hid (hs4.out.below b5)
       clear b5 hs4
       skip)
    | (refine wpList_load_row_g rfl 31 _ rfl S1 rfl 31 _ (0, 0) _ hs5.out.oin Tryd.underlying31 rfl (by rw [h39'.out]; exact hi39'.out) ?_)
    | (refine wpList_load_row_g rfl 31 _ rfl w.heap.size rfl 31 _ (0, 0) _ hs5.out.ob Tryd.underlying31 rfl (by rw [h39'.out]; exact hi39'.out) ?_)
    | (go_at_call 14
       refine (refSame_self _ o q p hs5.out.l.objIn ((hm'.out.may.oin.below hs5.out.bel).mono hs5.out.bel.size) hm'.out.may.fit).mono ?_
       rintro e w6 ⟨rfl, b6⟩
       have hs6 := Lib.hid (hs5.out.below b6)
       clear b6 hs5
       skip)
    | (refine wpList_load_row_g rfl 31 _ rfl S1 rfl 31 _ (0, 0) _ hs6.out.oin Tryd.underlying31 rfl (by rw [h39'.out]; exact hi39'.out) ?_)
    | (go_at_call 17
       refine (left_any _ o q _ hs6.out.l hm'.out.may.fit).mono ?_
       rintro e w7 ⟨rfl, b7⟩
       have hs7 := Lib.hid (hs6.out.below b7)
       clear b7 hs6
       skip))
  go_ret
  exact ⟨rfl, hs7.out.bel⟩
end Go.Proofs.YtkjndgapejbgcaaDoor

namespace Go.Proofs.YtkjndgapejbgcaaDoor
open Go.RowKit Go.ChangeShapes Go.WideShapes

theorem enc_in {w : World} {o : ObjT} {p : Lay} (ht : U8T w) (ha : ObjIn w w.heap.size o p) (hf : Fit o) (hg : Good o) : EncIn w o p :=
  ⟨⟨ht, ha, hf, fun x hx => (hg.ps x hx).2, hg.note⟩, hg⟩
set_option maxRecDepth 100000 in
theorem objectChecks_calls {H : Type} {enc : TypeId × Value → H} (W : World) (base : Nat) (v0 : Value) (d0 : DataW H) (p0 : List MemPlace)
    (o0 : Value.okWide Tryd.prog W .any base 31 v0) (h0 : DataW.Trod enc Tryd.prog W 0 (fun _ => true) true 31 v0 d0 p0)
    (hsz : (DataW.weightsEach Tryd.prog [31] [d0]).all (· ≤ reachBytes) = true)
    (ha : Lib.VarReads Tryd.prog W "unicode/utf8.acceptRanges" Lib.acceptData) (hf : Lib.VarReads Tryd.prog W "unicode/utf8.first" Lib.firstData) :
    Calls Tryd.prog 5 #[v0] W fun e W' => e = .returned (.bool true) ∧ Below W.heap.size W W' := by
  obtain ⟨a, p, rfl, hi, fa, hg⟩ := object_open W base v0 d0 p0 o0 h0 (jj := 0) hsz rfl rfl
  exact objectChecks_any W a p (enc_in (u8t_of ⟨ha, hf⟩) hi fa hg)
end Go.Proofs.YtkjndgapejbgcaaDoor

namespace Go.Proofs.YtkjndgapejbgcaaDoor
open Go.RowKit
set_option linter.unusedSimpArgs false
set_option linter.unusedVariables false

/-- A number of 64 bits as a signed one. -/
def signed64 (u : Nat) : Int := wrap64 (u : Int)
def readM (l : List Nat) (K : Nat) (s : DSt) : ObjT × DSt :=
  if K = 1 then ({ oZ with kind := 1, data := (rawM l (leftM l.length s) s).1 }, (rawM l (leftM l.length s) s).2)
  else if K = 2 then ({ oZ with kind := 2, parts := (eachM (partM l) l 128 s).1 }, (eachM (partM l) l 128 s).2)
  else if K = 3 then ({ oZ with kind := 3, items := (eachM (itemM l) l 128 s).1 }, (eachM (itemM l) l 128 s).2)
  else
    let t := keyM l s
    let ks := eachM (keyM l) l 127 t.2
    let m := fixM l 8 ks.2
    let n := textM l 1024 m.2
    ({ oZ with kind := 4, tree := t.1, parents := ks.1, time := signed64 m.1, note := strB n.1 }, n.2)
def kindIn (K : Nat) : Bool := decide (1 ≤ K) && decide (K ≤ 4)
/-- What Decode tells: the reason, the object. -/
def decM (l : List Nat) : Nat × ObjT :=
  if 8192 < l.length then (48, oZ)
  else if kindIn (fixM l 1 (some 0)).1 = false then (49, oZ)
  else if (readM l (fixM l 1 (some 0)).1 (fixM l 1 (some 0)).2).2 = some l.length ∧ mayE (readM l (fixM l 1 (some 0)).1 (fixM l 1 (some 0)).2).1 = 0 then (0, (readM l (fixM l 1 (some 0)).1 (fixM l 1 (some 0)).2).1)
  else (49, oZ)

section
variable {l : List Nat} (hl : ∀ x ∈ l, x < 256)
include hl
theorem rawM_lt (n : Nat) (s : DSt) : ∀ x ∈ (rawM l n s).1, x < 256 := by
  intro x hx
  unfold rawM at hx
  split at hx
  · simp at hx
  · split at hx
    · exact hl x (List.mem_of_mem_drop (List.mem_of_mem_take hx))
    · simp at hx
theorem fixM_lt (n : Nat) (s : DSt) : (fixM l n s).1 < 256 ^ n := by
  have h1 := leN_lt (rawM l n s).1 (rawM_lt hl n s)
  have h2 := rawM_length l n s
  exact Nat.lt_of_lt_of_le h1 (Nat.pow_le_pow_right (by decide) h2)
theorem keyM_ok (s : DSt) : okK (keyM l s).1 := by
  intro b hb
  unfold keyM at hb
  split at hb
  · exact rawM_lt hl 32 s b hb
  · simp [zK, zeros] at hb
    omega
theorem partM_ok (s : DSt) : okP (partM l s).1 := ⟨keyM_ok hl s, by
  have := varM_most l 9223372036854775807 (keyM l s).2
  unfold partM
  simp only
  omega⟩
end
theorem strB_size (x : List Nat) : (strB x).size = x.length := by
  unfold strB
  simp [ByteArray.size]
theorem textM_length (l : List Nat) (most : Nat) (s : DSt) : (textM l most s).1.length ≤ most := Nat.le_trans (rawM_length _ _ _) (varM_most l most s)
theorem itemM_ok {l : List Nat} (hl : ∀ x ∈ l, x < 256) (s : DSt) : okI (itemM l s).1 := by
  unfold itemM okI
  simp only
  refine ⟨?_, ?_, ?_, keyM_ok hl _⟩
  · rw [strB_size]
    have := textM_length l 64 s
    unfold maxLen
    omega
  · have := fixM_lt hl 1 (textM l 64 s).2
    simpa using this
  · have := varM_most l 18446744073709551615 (fixM l 1 (textM l 64 s).2).2
    omega
theorem loopM_all {α : Type} {one : DSt → α × DSt} {P : α → Prop} (h : ∀ s, P (one s).1) : ∀ (n : Nat) (s : DSt), ∀ x ∈ (loopM one n s).1, P x
  | 0, _, x, hx => by simp [loopM] at hx
  | n + 1, none, x, hx => by simp [loopM] at hx
  | n + 1, some k, x, hx => by
    simp only [loopM] at hx
    rcases List.mem_cons.1 hx with rfl | hx
    · exact h _
    · exact loopM_all h n _ x hx
theorem loopM_length {α : Type} (one : DSt → α × DSt) : ∀ (n : Nat) (s : DSt), (loopM one n s).1.length ≤ n
  | 0, _ => by simp [loopM]
  | n + 1, none => by simp [loopM]
  | n + 1, some k => by
    simp only [loopM, List.length_cons]
    have := loopM_length one n (one (some k)).2
    omega
theorem eachM_all {α : Type} {one : DSt → α × DSt} {P : α → Prop} (h : ∀ s, P (one s).1) (l : List Nat) (most : Nat) (s : DSt) : ∀ x ∈ (eachM one l most s).1, P x := by
  intro x hx
  unfold eachM at hx
  simp only at hx
  split at hx
  · simp at hx
  · exact loopM_all h _ _ x hx
theorem eachM_length {α : Type} (one : DSt → α × DSt) (l : List Nat) (most : Nat) (s : DSt) : (eachM one l most s).1.length ≤ most := by
  unfold eachM
  simp only
  split
  · simp
  · exact Nat.le_trans (loopM_length _ _ _) (varM_most l most s)
theorem leftM_le (n : Nat) (s : DSt) : leftM n s ≤ n := by
  unfold leftM
  split <;> omega
theorem signed_in {u : Nat} (h : u < 18446744073709551616) : -9223372036854775808 ≤ signed64 u ∧ signed64 u ≤ 9223372036854775807 := by
  unfold signed64 wrap64
  omega
/-- What is read keeps to its bounds. -/
structure Read (o : ObjT) : Prop where
  good : Good o
  fit : Fit o
  d : o.data.length ≤ 8192
  note : o.note.size ≤ 1024
theorem zk_ok : okK zK := by
  intro b hb
  simp [zK, zeros] at hb
  omega
theorem readM_ok {l : List Nat} (hl : ∀ x ∈ l, x < 256) (hn : l.length ≤ 8192) (K : Nat) (s : DSt) : Read (readM l K s).1 := by
  have h0 : (⟨#[]⟩ : ByteArray).size = 0 := rfl
  unfold readM
  split
  · have h1 := rawM_length l (leftM l.length s) s
    have h2 := leftM_le l.length s
    refine ⟨⟨by simp, by simp [oZ], by simp [oZ], by simp [oZ], zk_ok, by simp [oZ], by simp [oZ, h0]⟩, ⟨by simp only; omega, by simp [oZ], by simp [oZ], by simp [oZ], rawM_lt hl _ _⟩, by simp only; omega, by simp [oZ, h0]⟩
  · split
    · have h1 := eachM_length (partM l) l 128 s
      exact ⟨⟨by simp, eachM_all (partM_ok hl) l 128 s, by simp [oZ], by simp [oZ], zk_ok, by simp [oZ], by simp [oZ, h0]⟩, ⟨by simp [oZ], by simp only; omega, by simp [oZ], by simp [oZ], by simp [oZ]⟩, by simp [oZ], by simp [oZ, h0]⟩
    · split
      · have h1 := eachM_length (itemM l) l 128 s
        exact ⟨⟨by simp, by simp [oZ], eachM_all (itemM_ok hl) l 128 s, by simp [oZ], zk_ok, by simp [oZ], by simp [oZ, h0]⟩, ⟨by simp [oZ], by simp [oZ], by simp only; omega, by simp [oZ], by simp [oZ]⟩, by simp [oZ], by simp [oZ, h0]⟩
      · have h1 := eachM_length (keyM l) l 127 (keyM l s).2
        have h2 := textM_length l 1024 (fixM l 8 (eachM (keyM l) l 127 (keyM l s).2).2).2
        have h3 := fixM_lt hl 8 (eachM (keyM l) l 127 (keyM l s).2).2
        have h4 := signed_in (u := (fixM l 8 (eachM (keyM l) l 127 (keyM l s).2).2).1) (by simpa using h3)
        simp only
        exact ⟨⟨by simp, by simp [oZ], by simp [oZ], eachM_all (keyM_ok hl) l 127 _, keyM_ok hl s, h4, by simp only [strB_size]; unfold maxLen; omega⟩, ⟨by simp [oZ], by simp [oZ], by simp [oZ], by simp only; omega, by simp [oZ]⟩, by simp [oZ], by simp only [strB_size]; omega⟩
end Go.Proofs.YtkjndgapejbgcaaDoor

namespace Go.Proofs.YtkjndgapejbgcaaDoor
open Go.RowKit
set_option linter.unusedSimpArgs false
set_option linter.unusedVariables false

/-- Of what was there only blocks g and h have changed. -/
structure Gr2 (w w' : World) (g h : Nat) : Prop where
  os : w'.os = w.os
  tape : w'.tape = w.tape
  output : w'.output = w.output
  size : w.heap.size ≤ w'.heap.size
  block : ∀ k, k < w.heap.size → k ≠ g → k ≠ h → w'.heap[k]? = w.heap[k]?
/-- The decoder in block g, the object that is filled in block h. -/
structure RdS (w w2 : World) (g h : Nat) (A : Option Addr) (c : Nat) (l : List Nat) (s : DSt) (o : ObjT) (p : Lay) : Prop where
  dec : DecS w2 g A c l s
  gr : Gr2 w w2 g h
  ob : OBlk w2 h o p
  ne : g ≠ h
  hA : blockOf A ≠ some h
  gl : g < w.heap.size
  hl : h < w.heap.size
section
variable {w w2 w3 : World} {g h c : Nat} {A : Option Addr} {l : List Nat} {s s' : DSt} {o o' : ObjT} {p p' : Lay}
theorem RdS.start (hd : DecS w g A c l s) (ho : OBlk w h o p) (ne : g ≠ h) (hA : blockOf A ≠ some h) : RdS w w g h A c l s o p :=
  ⟨hd, ⟨rfl, rfl, rfl, Nat.le_refl _, fun _ _ _ _ => rfl⟩, ho, ne, hA, hd.gl, lt_of_block ho⟩
theorem RdS.call (hr : RdS w w2 g h A c l s o p) (hd : DecS w3 g A c l s') (hg : w2.grownBy w3 (some g)) : RdS w w3 g h A c l s' o p :=
  ⟨hd, ⟨hg.os.trans hr.gr.os, hg.tape.trans hr.gr.tape, hg.output.trans hr.gr.output, Nat.le_trans hr.gr.size hg.size, fun k hk h1 h2 => (hg.block k (Nat.lt_of_lt_of_le hk hr.gr.size) (fun e => h1 (by injection e))).trans (hr.gr.block k hk h1 h2)⟩,
   (hg.block h (lt_of_block hr.ob) (fun e => hr.ne (by injection e with e; exact e.symm))).trans hr.ob, hr.ne, hr.hA, hr.gl, hr.hl⟩
theorem RdS.set (hr : RdS w w2 g h A c l s o p) (hg : w2.grownBy w3 (some h)) (ho : OBlk w3 h o' p') : RdS w w3 g h A c l s o' p' :=
  ⟨hr.dec.grown hg (fun N hN => by injection hN with hN; subst hN; exact ⟨⟨_, _, _, hr.ob, by decide, by decide⟩, hr.hA⟩),
   ⟨hg.os.trans hr.gr.os, hg.tape.trans hr.gr.tape, hg.output.trans hr.gr.output, Nat.le_trans hr.gr.size hg.size, fun k hk h1 h2 => (hg.block k (Nat.lt_of_lt_of_le hk hr.gr.size) (fun e => h2 (by injection e))).trans (hr.gr.block k hk h1 h2)⟩,
   ho, hr.ne, hr.hA, hr.gl, hr.hl⟩
theorem RdS.drewN (hr : RdS w w2 g h A c l s o p) (n : Nat) : RdS w (w2.drewN n) g h A c l s o p := hr.call (hr.dec.keep (below_drewN (Below.refl _ _) n)) (grown_drewN _ _ _)
theorem OBlk.putD (hb : OBlk w h o p) (x : List Nat) (A' : Option Addr) (c' n : Nat) (hn : x.length = n) : OBlk (w.setCell ⟨h, 1, none⟩ (.slice A' n c')) h { o with data := x } { p with Ad := A', cd := c' } := by
  subst hn
  have := heap_setCell_same w h 1 _ _ (.slice A' x.length c') hb
  unfold OBlk
  rw [this]
  simp [ocells]
theorem OBlk.putP (hb : OBlk w h o p) (x : List PartT) (A' : Option Addr) (c' n : Nat) (hn : x.length = n) : OBlk (w.setCell ⟨h, 2, none⟩ (.slice A' n c')) h { o with parts := x } { p with Ap := A', cp := c' } := by
  subst hn
  have := heap_setCell_same w h 2 _ _ (.slice A' x.length c') hb
  unfold OBlk
  rw [this]
  simp [ocells]
theorem OBlk.putI (hb : OBlk w h o p) (x : List ItemT) (A' : Option Addr) (c' n : Nat) (hn : x.length = n) : OBlk (w.setCell ⟨h, 3, none⟩ (.slice A' n c')) h { o with items := x } { p with Ai := A', ci := c' } := by
  subst hn
  have := heap_setCell_same w h 3 _ _ (.slice A' x.length c') hb
  unfold OBlk
  rw [this]
  simp [ocells]
theorem OBlk.putK (hb : OBlk w h o p) (x : List Key32) (A' : Option Addr) (c' n : Nat) (hn : x.length = n) : OBlk (w.setCell ⟨h, 36, none⟩ (.slice A' n c')) h { o with parents := x } { p with Ak := A', ck := c' } := by
  subst hn
  have := heap_setCell_same w h 36 _ _ (.slice A' x.length c') hb
  have h32 : (u8s o.tree.1).length = 32 := by simp [u8s, o.tree.2]
  unfold OBlk
  rw [this]
  simp only [ocells, List.setIfInBounds_toArray, List.set_cons_succ]
  rw [List.set_append_right _ _ (by omega), h32]
  rfl
theorem OBlk.putM (hb : OBlk w h o p) (t : Int) : OBlk (w.setCell ⟨h, 37, none⟩ (.int .i64 t)) h { o with time := t } p := by
  have := heap_setCell_same w h 37 _ _ (.int .i64 t) hb
  have h32 : (u8s o.tree.1).length = 32 := by simp [u8s, o.tree.2]
  unfold OBlk
  rw [this]
  simp only [ocells, List.setIfInBounds_toArray, List.set_cons_succ]
  rw [List.set_append_right _ _ (by omega), h32]
  rfl
theorem OBlk.putN (hb : OBlk w h o p) (t : ByteArray) : OBlk (w.setCell ⟨h, 38, none⟩ (.string t)) h { o with note := t } p := by
  have := heap_setCell_same w h 38 _ _ (.string t) hb
  have h32 : (u8s o.tree.1).length = 32 := by simp [u8s, o.tree.2]
  unfold OBlk
  rw [this]
  simp only [ocells, List.setIfInBounds_toArray, List.set_cons_succ]
  rw [List.set_append_right _ _ (by omega), h32]
  rfl
theorem OBlk.putT (hb : OBlk w h o p) (k : Key32) : OBlk (w.setCells h 4 (encK k).toArray.toList) h { o with tree := k } p :=
  setCells_block h 31 (encK k) (u8s o.tree.1) [.int .u8 (o.kind : Int), .slice p.Ad o.data.length p.cd, .slice p.Ap o.parts.length p.cp, .slice p.Ai o.items.length p.ci]
    [.slice p.Ak o.parents.length p.ck, .int .i64 o.time, .string o.note] w (by simp [encK, u8s, k.2, o.tree.2]) hb
theorem OBlk.ther (hb : OBlk w h o p) : w.there h 4 32 := fun j hj => by
  have hj2 : j < (encK o.tree).length := by rw [encK_length]; exact hj
  exact ⟨by rw [hb.tree j _ (List.getElem?_eq_getElem hj2)]; rfl, hb.fz _⟩
end

/-- An object's lists in memory of their own, from block B on. -/
structure OOwn (w : World) (B : Nat) (o : ObjT) (p : Lay) : Prop where
  d : Own w B 5 1 p.Ad o.data.length p.cd (u8s o.data)
  ps : Own w B 47 33 p.Ap o.parts.length p.cp (flat encP o.parts)
  xs : Own w B 50 35 p.Ai o.items.length p.ci (flat encI o.items)
  ks : Own w B 28 32 p.Ak o.parents.length p.ck (flat encK o.parents)
theorem OOwn.zero (w : World) (B : Nat) (K : Nat) : OOwn w B { oZ with kind := K } pZ := ⟨Own.nil _ _ _ _, Own.nil _ _ _ _, Own.nil _ _ _ _, Own.nil _ _ _ _⟩
/-- What a reader leaves. -/
def ReadPost (w : World) (g h : Nat) (A : Option Addr) (c : Nat) (l : List Nat) (r : ObjT × DSt) (e : Ending) (w' : World) : Prop :=
  (∃ v, e = .returned v) ∧ ∃ p, RdS w w' g h A c l r.2 r.1 p ∧ OOwn w' w.heap.size r.1 p

section
variable {w : World} {g h c : Nat} {A : Option Addr} {l : List Nat} {s : DSt}
set_option maxRecDepth 20000 in
set_option maxHeartbeats 2000000 in
theorem reader1_any (hr0 : RdS w w g h A c l s { oZ with kind := 1 } pZ) :
    Calls Tryd.prog 76 #[.pointer (some ⟨g, 0, none⟩), .pointer (some ⟨h, 0, none⟩)] w (ReadPost w g h A c l (readM l 1 s)) := by
  have hr := Lib.hid hr0
  have hlf := Lib.hid (left_dec hr0.dec)
  have hbd := Lib.hid (show leftM l.length s ≤ 4611686018427387904 from by have := leftM_le l.length s; have := hr0.dec.cap; omega)
  obtain ⟨n, hn⟩ : ∃ n, Hid (∀ _ : Unit, leftM l.length s = n) := ⟨_, Lib.hid fun _ => rfl⟩
  obtain ⟨x, s1, hx⟩ : ∃ x s', Hid (rawM l n s = (x, s')) := ⟨_, _, Lib.hid rfl⟩
  have hfin : Hid (readM l 1 s = ({ oZ with kind := 1, data := x }, s1)) := Lib.hid (by unfold readM; rw [if_pos rfl, hn.out (), hx.out])
  obtain ⟨RR, hRR⟩ : ∃ R, Hid (∀ _ : Unit, readM l 1 s = R) := ⟨_, Lib.hid fun _ => rfl⟩
  rw [hRR.out ()]
  rw [hn.out ()] at hlf hbd
  have hrw : Hid (∀ q : Nat, Calls Tryd.prog 77 #[.pointer (some ⟨g, 0, none⟩), .int .i64 (n : Int)] (w.drewN q) fun e w' => (∃ A' c', e = .returned (.slice A' x.length c') ∧ Own w' w.heap.size 5 1 A' x.length c' (u8s x)) ∧ DecS w' g A c l s1 ∧ (w.drewN q).grownBy w' (some g)) := Lib.hid fun q => by
    have := rawd_any ((hr.out.drewN q).dec) n hbd.out
    rw [hx.out] at this
    exact this.mono fun e w' ⟨⟨A', c', he, ho, _⟩, hd, hg⟩ => ⟨⟨A', c', he, ho⟩, hd, hg⟩
  clear hr0
  go_enter Tryd.func76, Tryd.ntmps76
  go_wp2_with (first
    | (go_at_call 78; refine hlf.out.mono ?_; rintro e w' ⟨rfl, q, rfl⟩)
    | (go_at_call 77
       refine (hrw.out _).mono ?_
       rintro e w2 ⟨⟨A2, c2, rfl, o2⟩, d2, g2⟩
       have hr2 := Lib.hid ((hr.out.drewN q).call d2 g2)
       have o2' := Lib.hid (o2.setFar (p := ⟨h, 1, none⟩) hr.out.hl (.slice A2 x.length c2))
       have x1 := hr2.out.ob.c1
       have f1 := hr2.out.ob.fz 1
       have hr3 := Lib.hid (hr2.out.set (grown_set _ _ _ _) (hr2.out.ob.putD x A2 c2 _ rfl))
       clear o2 d2 g2))
  go_end0
  rw [← hRR.out (), hfin.out]
  exact ⟨⟨_, rfl⟩, _, hr3.out, ⟨o2'.out, Own.nil _ _ _ _, Own.nil _ _ _ _, Own.nil _ _ _ _⟩⟩
set_option maxRecDepth 20000 in
set_option maxHeartbeats 2000000 in
theorem reader2_any (hr0 : RdS w w g h A c l s { oZ with kind := 2 } pZ) :
    Calls Tryd.prog 79 #[.pointer (some ⟨g, 0, none⟩), .pointer (some ⟨h, 0, none⟩)] w (ReadPost w g h A c l (readM l 2 s)) := by
  have hr := Lib.hid hr0
  obtain ⟨x, s1, hx⟩ : ∃ x s', Hid (eachM (partM l) l 128 s = (x, s')) := ⟨_, _, Lib.hid rfl⟩
  have hfin : Hid (readM l 2 s = ({ oZ with kind := 2, parts := x }, s1)) := Lib.hid (by unfold readM; simp only [hx.out]; rfl)
  obtain ⟨RR, hRR⟩ : ∃ R, Hid (∀ _ : Unit, readM l 2 s = R) := ⟨_, Lib.hid fun _ => rfl⟩
  rw [hRR.out ()]
  have hec := eachP_any hr0.dec 128 (by decide)
  rw [hx.out] at hec
  have hec' := Lib.hid hec
  clear hr0 hec
  go_enter Tryd.func79, Tryd.ntmps79
  go_wp2_with (first
    | (go_at_call 80
       refine hec'.out.mono ?_
       rintro e w2 ⟨⟨A2, c2, rfl, o2⟩, d2, g2⟩
       have hr2 := Lib.hid (hr.out.call d2 g2)
       have o2' := Lib.hid (o2.setFar (p := ⟨h, 2, none⟩) hr.out.hl (.slice A2 x.length c2))
       have x1 := hr2.out.ob.c2
       have f1 := hr2.out.ob.fz 2
       have hr3 := Lib.hid (hr2.out.set (grown_set _ _ _ _) (hr2.out.ob.putP x A2 c2 _ rfl))
       clear o2 d2 g2))
  go_end0
  rw [← hRR.out (), hfin.out]
  exact ⟨⟨_, rfl⟩, _, hr3.out, ⟨Own.nil _ _ _ _, o2'.out, Own.nil _ _ _ _, Own.nil _ _ _ _⟩⟩
set_option maxRecDepth 20000 in
set_option maxHeartbeats 2000000 in
theorem reader3_any (hr0 : RdS w w g h A c l s { oZ with kind := 3 } pZ) :
    Calls Tryd.prog 82 #[.pointer (some ⟨g, 0, none⟩), .pointer (some ⟨h, 0, none⟩)] w (ReadPost w g h A c l (readM l 3 s)) := by
  have hr := Lib.hid hr0
  obtain ⟨x, s1, hx⟩ : ∃ x s', Hid (eachM (itemM l) l 128 s = (x, s')) := ⟨_, _, Lib.hid rfl⟩
  have hfin : Hid (readM l 3 s = ({ oZ with kind := 3, items := x }, s1)) := Lib.hid (by unfold readM; simp only [hx.out]; rfl)
  obtain ⟨RR, hRR⟩ : ∃ R, Hid (∀ _ : Unit, readM l 3 s = R) := ⟨_, Lib.hid fun _ => rfl⟩
  rw [hRR.out ()]
  have hec := eachI_any hr0.dec 128 (by decide)
  rw [hx.out] at hec
  have hec' := Lib.hid hec
  clear hr0 hec
  go_enter Tryd.func82, Tryd.ntmps82
  go_wp2_with (first
    | (go_at_call 83
       refine hec'.out.mono ?_
       rintro e w2 ⟨⟨A2, c2, rfl, o2⟩, d2, g2⟩
       have hr2 := Lib.hid (hr.out.call d2 g2)
       have o2' := Lib.hid (o2.setFar (p := ⟨h, 3, none⟩) hr.out.hl (.slice A2 x.length c2))
       have x1 := hr2.out.ob.c3
       have f1 := hr2.out.ob.fz 3
       have hr3 := Lib.hid (hr2.out.set (grown_set _ _ _ _) (hr2.out.ob.putI x A2 c2 _ rfl))
       clear o2 d2 g2))
  go_end0
  rw [← hRR.out (), hfin.out]
  exact ⟨⟨_, rfl⟩, _, hr3.out, ⟨Own.nil _ _ _ _, Own.nil _ _ _ _, o2'.out, Own.nil _ _ _ _⟩⟩
set_option maxRecDepth 20000 in
set_option maxHeartbeats 4000000 in
theorem reader4_any (hr0 : RdS w w g h A c l s { oZ with kind := 4 } pZ) :
    Calls Tryd.prog 85 #[.pointer (some ⟨g, 0, none⟩), .pointer (some ⟨h, 0, none⟩)] w (ReadPost w g h A c l (readM l 4 s)) := by
  have hi32 : (Tryd.prog.info? 28).map (·.size) = some 32 := by kernel_rfl
  have hi32' := Lib.hid hi32
  have h32' := Lib.hid (fun x : Key32 => show (encK x).toArray.size = 32 by simp [encK_length])
  have honk' := Lib.hid (fun x : Key32 => show (encK x).toArray.all (·.oneCell') = true from all_oneCell_toArray (encK_one x))
  have hr := Lib.hid hr0
  obtain ⟨t, s1, ht⟩ : ∃ x s', Hid (keyM l s = (x, s')) := ⟨_, _, Lib.hid rfl⟩
  obtain ⟨ks, s2, hk⟩ : ∃ x s', Hid (eachM (keyM l) l 127 s1 = (x, s')) := ⟨_, _, Lib.hid rfl⟩
  obtain ⟨m, s3, hm⟩ : ∃ x s', Hid (fixM l 8 s2 = (x, s')) := ⟨_, _, Lib.hid rfl⟩
  obtain ⟨nb, s4, hn⟩ : ∃ x s', Hid (textM l 1024 s3 = (x, s')) := ⟨_, _, Lib.hid rfl⟩
  obtain ⟨tm, htm⟩ : ∃ x, Hid (∀ _ : Unit, wrap64 (m : Int) = x) := ⟨_, Lib.hid fun _ => rfl⟩
  obtain ⟨nt, hnt⟩ : ∃ x, Hid (∀ _ : Unit, strB nb = x) := ⟨_, Lib.hid fun _ => rfl⟩
  have hfin : Hid (readM l 4 s = ({ oZ with kind := 4, tree := t, parents := ks, time := tm, note := nt }, s4)) := Lib.hid (by
    unfold readM signed64
    simp only [ht.out, hk.out, hm.out, hn.out, htm.out (), hnt.out ()]
    rfl)
  obtain ⟨RR, hRR⟩ : ∃ R, Hid (∀ _ : Unit, readM l 4 s = R) := ⟨_, Lib.hid fun _ => rfl⟩
  rw [hRR.out ()]
  have hkc := keyd_any hr0.dec
  rw [ht.out] at hkc
  have hkc' := Lib.hid hkc
  clear hr0 hkc hi32
  go_enter Tryd.func85, Tryd.ntmps85
  go_wp2_with fail
  refine hkc'.out.mono ?_
  rintro e w2 ⟨rfl, d2, g2⟩
  have hr2 := Lib.hid (hr.out.call d2 g2)
  have hth := Lib.hid (by have := hr2.out.ob.ther; rwa [← h32'.out t] at this)
  have hr3 := Lib.hid (hr2.out.set (grown_setCells h (encK t).toArray.toList 4 _) (hr2.out.ob.putT t))
  clear d2 g2 hkc'
  go_wp2_with (first
    | (refine wpList_store_mid rfl 28 _ _ rfl h 4 (encK t).toArray rfl rfl hth.out (by rw [h32'.out]; exact hi32'.out) (honk'.out _) ?_
       generalize w2.setCells h 4 (encK t).toArray.toList = w3 at hr3 ⊢
       have hec := eachK_any hr3.out.dec 127 (by decide)
       rw [hk.out] at hec
       have hec' := Lib.hid hec
       clear hec)
    | (go_at_call 87
       refine hec'.out.mono ?_
       rintro e w4 ⟨⟨A4, c4, rfl, o4⟩, d4, g4⟩
       have hr4 := Lib.hid (hr3.out.call d4 g4)
       have o4b := o4.base (show w.heap.size ≤ w3.heap.size from hr3.out.gr.size)
       have o4' := Lib.hid (o4b.setFar (p := ⟨h, 36, none⟩) hr.out.hl (.slice A4 ks.length c4))
       have x1 := hr4.out.ob.c36
       have f1 := hr4.out.ob.fz 36
       have hr5 := Lib.hid (hr4.out.set (grown_set _ _ _ _) (hr4.out.ob.putK ks A4 c4 _ rfl))
       have htc := takeint64_any hr5.out.dec
       rw [hm.out] at htc
       have htc' := Lib.hid htc
       clear o4 o4b d4 g4 htc hec')
    | (go_at_call 88
       refine htc'.out.mono ?_
       rintro e w6 ⟨rfl, d6, g6⟩
       rw [htm.out ()]
       have hr6 := Lib.hid (hr5.out.call d6 g6)
       have o6' := Lib.hid ((o4'.out.gk g6 hr.out.gl).setFar (p := ⟨h, 37, none⟩) hr.out.hl (.int .i64 tm))
       have x2 := hr6.out.ob.c37
       have f2 := hr6.out.ob.fz 37
       have hr7 := Lib.hid (hr6.out.set (grown_set _ _ _ _) (hr6.out.ob.putM tm))
       have hxc := textd_any hr7.out.dec 1024 (by decide)
       rw [hn.out] at hxc
       have hxc' := Lib.hid hxc
       clear d6 g6 hxc htc' x1 f1)
    | (go_at_call 89
       refine hxc'.out.mono ?_
       rintro e w8 ⟨rfl, d8, g8⟩
       simp only [hnt.out ()]
       have hr8 := Lib.hid (hr7.out.call d8 g8)
       have o8' := Lib.hid ((o6'.out.gk g8 hr.out.gl).setFar (p := ⟨h, 38, none⟩) hr.out.hl (.string nt))
       have x3 := hr8.out.ob.c38
       have f3 := hr8.out.ob.fz 38
       have hr9 := Lib.hid (hr8.out.set (grown_set _ _ _ _) (hr8.out.ob.putN nt))
       clear d8 g8 hxc' x2 f2))
  go_end0
  rw [← hRR.out (), hfin.out]
  exact ⟨⟨_, rfl⟩, _, hr9.out, ⟨Own.nil _ _ _ _, Own.nil _ _ _ _, Own.nil _ _ _ _, o8'.out⟩⟩
end
end Go.Proofs.YtkjndgapejbgcaaDoor

/- The document's table: Set, Drop. (Printed by tools/gendset.py.) The document's table: Set, Drop. (Printed by tools/gendset.py.) The document's table: Set, Drop. (Printed by tools/gendset.py.) -/
import Derived.Test.YtakcnkmlglkkpaaPkR23
import Derived.Test.YtakcnkmlglkkpaaPkR15

namespace Go.Proofs.Ytakcnkmlglkkpaa
open Go.RowKit
set_option linter.unusedSimpArgs false
set_option linter.unusedVariables false
open Classical

section
variable {ops : Array Oper} {rest : List Oper} {o : Oper} {a : Act} {w : World} {Q : Exit → Act → World → Prop}
theorem wpList_bRt (hg : o.guard = none) (s : ByteArray) (k : RKey) (t1 t2 : Operand) (ho : o.op = .build 61 #[(0, t1), (1, t2)]) (h1 : a.eval t1 = .string s) (h2 : a.eval t2 = .agg (encKy k).toArray)
    (h : wpList Try.prog ops Q rest (a.put o.dst (.agg (encR (s, k)).toArray)) w) : wpList Try.prog ops Q (o :: rest) a w :=
  wpList_plain hg fun K hK => by
    unfold Oper.wp execOp
    simp only [ho, List.map_toArray, List.map_cons, List.map_nil, h1, h2, Sem.run_bind, buildRt, Result.andThen_ok, Sem.run_pure]
    exact hK _ _ h
end
set_option maxRecDepth 100000 in
set_option maxHeartbeats 8000000 in
theorem dset_true (w : World) {B g c : Nat} {A : Option Addr} {L : Lists} {ps : List Value} (h : Doc w B g A c L ps) (hmany : L.length < 100000) (s : ByteArray) (k : RKey) (hs : Name s) (hth : thereQ s (present L) = true) :
    Calls Try.prog 36 #[.pointer (some ⟨g, 0, none⟩), .string s, .agg (encKy k).toArray] w fun e w' => e = .returned (.int .i64 0) ∧ ChdD w B g A (L ++ [setL (s, k) (present L)]) w' := by
  have hi32 : Hid ((Try.prog.info? 35).map (·.size) = some 32) := Lib.hid (by kernel_rfl)
  have a32 : Hid (∀ k : RKey, (encKy k).toArray.size = 32) := Lib.hid fun k => by simp [encKy_length]
  obtain ⟨w0, hw0⟩ : ∃ w0, Hid (∀ _ : Unit, w.alloc (.cells (encKy k).toArray 35) = w0) := ⟨_, Lib.hid fun _ => rfl⟩
  have hb0 : Hid (Below w.heap.size w w0) := Lib.hid (by rw [← hw0.out ()]; exact (Below.refl _ _).alloc (Nat.le_refl _) _)
  have xk0 : Hid (w0.heap[w.heap.size]? = some (.cells (encKy k).toArray 35 (0, 0))) := Lib.hid (by rw [← hw0.out ()]; exact heap_alloc_new w _)
  have hD := Lib.hid h
  have hsz : Hid (w.heap.size ≤ w0.heap.size) := Lib.hid hb0.out.size
  have hn := Lib.hid (dnow_any w0 (h.below hb0.out))
  have h64 : (present L).length ≤ 64 := h.few _ (List.mem_of_getElem? (present_last h.ne))
  have hN := Lib.hid fun W => refNamed_yes hs W
  obtain ⟨l, hl⟩ : ∃ l, Hid (∀ _ : Unit, present L = l) := ⟨_, Lib.hid fun _ => rfl⟩
  obtain ⟨n, hnn⟩ : ∃ n, Hid (∀ _ : Unit, l.length = n) := ⟨_, Lib.hid fun _ => rfl⟩
  rw [hl.out ()] at hn h64 hth ⊢
  rw [hnn.out ()] at hn h64
  have hpl : Hid (∀ (m : Nat) (Al : Option Addr) (cl : Nat), RowR w0 w0.heap.size Al l → Calls Try.prog 54 #[.slice Al n cl, .string s] (w0.drewN m) fun e w' => e = .returned (.tuple #[.int .i64 (placeQ s l : Nat), .bool true]) ∧ ∃ m, w' = w0.drewN m) := Lib.hid fun m Al cl hR => by
    rw [← hth]
    refine (place_any (w0.drewN m) l Al n cl w0.heap.size s (hnn.out ()) (by omega) hR).mono ?_
    rintro e w' ⟨h1, m2, rfl⟩
    exact ⟨h1, m + m2, by simp⟩
  have hnew : Hid (setL (s, k) l = l.take (placeQ s l) ++ (s, k) :: l.drop (placeQ s l + 1)) := Lib.hid (by have := setL_place (s, k) l; simp only [hth] at this; simpa using this)
  have hpn : placeQ s l < n := by
    obtain ⟨x, hx, _⟩ := there_at hth
    rw [← hnn.out ()]
    exact (List.getElem?_eq_some_iff.1 hx).1
  obtain ⟨p, hp⟩ : ∃ p, Hid (∀ _ : Unit, placeQ s l = p) := ⟨_, Lib.hid fun _ => rfl⟩
  rw [hp.out ()] at hpl hpn hnew
  obtain ⟨q, hq⟩ : ∃ q : Nat, Hid (∀ _ : Unit, p + 1 = q) := ⟨_, Lib.hid fun _ => rfl⟩
  rw [hq.out ()] at hnew
  have hqn : q ≤ n := by have := hq.out (); omega
  have hqi : (p : Int) + 1 = (q : Int) := by have := hq.out (); omega
  have wq : IntKind.i64.wrap (q : Int) = (q : Int) := by rw [IntKind.wrap_i64]; omega
  have tl : Hid ((l.take p).length = p) := Lib.hid (by rw [List.length_take]; have := hnn.out (); omega)
  have dl : Hid ((l.drop q).length = n - q) := Lib.hid (by rw [List.length_drop]; have := hnn.out (); omega)
  have hnl : Hid ((setL (s, k) l).length = p + 1 + (n - q)) := Lib.hid (by rw [hnew.out]; simp only [List.length_append, List.length_cons, tl.out, dl.out]; try omega)
  clear h hth hs
  go_enter Try.func36, Try.ntmps36
  go_wp2_with fail
  rw [hw0.out ()]
  go_wp2_with (first
    | (go_at_call 11; refine (hN.out _).mono ?_; rintro e w9 ⟨rfl, rfl⟩)
    | (go_at_call 53
       refine hn.out.mono ?_
       rintro e w1 ⟨⟨Al, cl, rfl, ol⟩, m, rfl⟩
       have ol2 : RowR w0 w0.heap.size Al l := RowR.of_own (by rw [hnn.out ()]; exact ol)
       have hcl := ol.le
       have hpc := Lib.hid (hpl.out m _ cl ol2)
       have rT := Lib.hid (RowR.take ol2 p cl (by have := hnn.out (); omega))
       have rD := Lib.hid (RowR.drop ol2 q cl (by have := hnn.out (); omega) (by have := hnn.out (); omega))
       have sl1 := fun W => slice_hR Al n cl p (by omega) W
       clear ol ol2)
    | (refine wpList_slL rfl _ _ rfl (A := Al) (n := n) (c := cl) (i := q) rfl rfl hqn ?_)
    | (go_at_call 54; refine hpc.out.mono ?_; rintro e w8 ⟨rfl, m2, rfl⟩)
    | (at_builtin; refine wpList_appR (w0.drewN m2) rfl _ _ rfl rfl (Own.nil _ w0.heap.size _ _) (l.take p) tl.out rfl (show RowR (w0.drewN m2) _ _ _ from rT.out) (by omega) (Nat.le_refl _) p (by omega) ?_
       intro A1 c1 wA oA atA bA
       have oA' := Lib.hid oA
       have bA' := Lib.hid ((below_drewN (Below.refl w0.heap.size w0) m2).trans bA)
       have xkA := Lib.hid ((bA'.out.block w.heap.size (Array.getElem?_eq_some_iff.1 xk0.out).1).trans xk0.out)
       clear oA atA bA)
    | (refine wpList_load_row rfl 35 _ rfl w.heap.size rfl 35 (encKy k).toArray (0, 0) _ xkA.out Try.underlying35 rfl (by rw [a32.out]; exact hi32.out) ?_)
    | (refine wpList_bRt rfl s k _ _ rfl rfl rfl ?_)
    | (refine Great.wpList_buildSliceTo rfl 24 61 1 _ rfl _ rfl _ rfl Try.underlying24 (encR (s, k)).toArray (by rw [List.map_toArray]; exact builtR (s, k)) ?_)
    | (at_builtin; refine wpList_app1 elR wA (encR (s, k)).toArray (by simp [encR_length]) rfl _ _ rfl rfl oA'.out rfl (by intro u hu; exact encR_one (s, k) u (by simpa using hu)) (by unfold maxLen; omega) (by omega) bA'.out.size (p + 1) rfl (rowsR (l.take p ++ [(s, k)])) (by rw [rowsR_snoc]; simp) ?_
       intro A2 c2 wB oB atB bB
       have oB' := Lib.hid oB
       have bB' := Lib.hid (bA'.out.trans bB)
       clear oB atB bB)
    | (at_builtin; refine wpList_appR wB rfl _ _ rfl rfl oB'.out (l.drop q) dl.out rfl (Rd.below rD.out bB'.out) (by omega) bB'.out.size (p + 1 + (n - q)) rfl ?_
       intro A3 c3 wC oC atC bC
       have bC' := Lib.hid (bB'.out.trans bC)
       have oC' : Hid (Own wC w0.heap.size 61 33 A3 (setL (s, k) l).length c3 (rowsR (setL (s, k) l))) := Lib.hid (by
         rw [hnl.out, hnew.out]
         simpa [rowsR] using oC)
       have hwC := Lib.hid (hb0.out.trans (bC'.out.mono hsz.out))
       have cC := (hD.out.below hwC.out).cell
       have oV := Lib.hid (hD.out.below hwC.out).own
       have hBC : Hid (B ≤ wC.heap.size) := Lib.hid (Nat.le_trans (Nat.le_trans hD.out.gB (Nat.le_of_lt hD.out.lt)) hwC.out.size)
       clear oC atC bC)
    | (at_builtin; refine wpList_app1 elLs wC #[.slice A3 (p + 1 + (n - q)) c3] rfl rfl _ _ rfl rfl oV.out rfl (by intro u hu; simp at hu; subst hu; rfl) (by unfold maxLen; omega) (by omega) hBC.out (L.length + 1) rfl (ps ++ [.slice A3 (setL (s, k) l).length c3]) (by rw [hnl.out]; try rfl) ?_
       intro A4 c4 wD oD atD bD
       have mo := Lib.hid (hD.out.more hwC.out (oC'.out.base hsz.out) (by have := hnl.out; omega) oD atD hmany)
       obtain ⟨q4, f4⟩ := hD.out.mid hwC.out atD
       clear oD atD bD))
  go_ret
  exact ⟨rfl, mo.out⟩
end Go.Proofs.Ytakcnkmlglkkpaa

namespace Go.Proofs.Ytakcnkmlglkkpaa
open Go.RowKit
set_option linter.unusedSimpArgs false
set_option linter.unusedVariables false
open Classical

set_option maxRecDepth 100000 in
set_option maxHeartbeats 8000000 in
theorem dset_false (w : World) {B g c : Nat} {A : Option Addr} {L : Lists} {ps : List Value} (h : Doc w B g A c L ps) (hmany : L.length < 100000) (s : ByteArray) (k : RKey) (hs : Name s) (hth : thereQ s (present L) = false) (h63 : (present L).length < 64) :
    Calls Try.prog 36 #[.pointer (some ⟨g, 0, none⟩), .string s, .agg (encKy k).toArray] w fun e w' => e = .returned (.int .i64 0) ∧ ChdD w B g A (L ++ [setL (s, k) (present L)]) w' := by
  have hi32 : Hid ((Try.prog.info? 35).map (·.size) = some 32) := Lib.hid (by kernel_rfl)
  have a32 : Hid (∀ k : RKey, (encKy k).toArray.size = 32) := Lib.hid fun k => by simp [encKy_length]
  obtain ⟨w0, hw0⟩ : ∃ w0, Hid (∀ _ : Unit, w.alloc (.cells (encKy k).toArray 35) = w0) := ⟨_, Lib.hid fun _ => rfl⟩
  have hb0 : Hid (Below w.heap.size w w0) := Lib.hid (by rw [← hw0.out ()]; exact (Below.refl _ _).alloc (Nat.le_refl _) _)
  have xk0 : Hid (w0.heap[w.heap.size]? = some (.cells (encKy k).toArray 35 (0, 0))) := Lib.hid (by rw [← hw0.out ()]; exact heap_alloc_new w _)
  have hD := Lib.hid h
  have hsz : Hid (w.heap.size ≤ w0.heap.size) := Lib.hid hb0.out.size
  have hn := Lib.hid (dnow_any w0 (h.below hb0.out))
  have h64 : (present L).length ≤ 64 := h.few _ (List.mem_of_getElem? (present_last h.ne))
  have hN := Lib.hid fun W => refNamed_yes hs W
  obtain ⟨l, hl⟩ : ∃ l, Hid (∀ _ : Unit, present L = l) := ⟨_, Lib.hid fun _ => rfl⟩
  obtain ⟨n, hnn⟩ : ∃ n, Hid (∀ _ : Unit, l.length = n) := ⟨_, Lib.hid fun _ => rfl⟩
  rw [hl.out ()] at hn h64 hth h63 ⊢
  rw [hnn.out ()] at hn h64 h63
  have hpl : Hid (∀ (m : Nat) (Al : Option Addr) (cl : Nat), RowR w0 w0.heap.size Al l → Calls Try.prog 54 #[.slice Al n cl, .string s] (w0.drewN m) fun e w' => e = .returned (.tuple #[.int .i64 (placeQ s l : Nat), .bool false]) ∧ ∃ m, w' = w0.drewN m) := Lib.hid fun m Al cl hR => by
    rw [← hth]
    refine (place_any (w0.drewN m) l Al n cl w0.heap.size s (hnn.out ()) (by omega) hR).mono ?_
    rintro e w' ⟨h1, m2, rfl⟩
    exact ⟨h1, m + m2, by simp⟩
  have hnew : Hid (setL (s, k) l = l.take (placeQ s l) ++ (s, k) :: l.drop (placeQ s l)) := Lib.hid (by have := setL_place (s, k) l; simp only [hth] at this; simpa using this)
  have hpn : placeQ s l ≤ n := by rw [← hnn.out ()]; exact placeQ_le s l
  obtain ⟨p, hp⟩ : ∃ p, Hid (∀ _ : Unit, placeQ s l = p) := ⟨_, Lib.hid fun _ => rfl⟩
  rw [hp.out ()] at hpl hpn hnew
  have hqn : p ≤ n := by omega
  have tl : Hid ((l.take p).length = p) := Lib.hid (by rw [List.length_take]; have := hnn.out (); omega)
  have dl : Hid ((l.drop p).length = n - p) := Lib.hid (by rw [List.length_drop]; have := hnn.out (); omega)
  have hnl : Hid ((setL (s, k) l).length = p + 1 + (n - p)) := Lib.hid (by rw [hnew.out]; simp only [List.length_append, List.length_cons, tl.out, dl.out]; try omega)
  clear h hth hs
  have g64 : ¬ (64 : Int) ≤ (n : Int) := by omega
  have gd : decide ((64 : Int) ≤ (n : Int)) = false := decide_eq_false g64
  go_enter Try.func36, Try.ntmps36
  go_wp2_with fail
  rw [hw0.out ()]
  go_wp2_with (first
    | (go_at_call 11; refine (hN.out _).mono ?_; rintro e w9 ⟨rfl, rfl⟩)
    | (go_at_call 53
       refine hn.out.mono ?_
       rintro e w1 ⟨⟨Al, cl, rfl, ol⟩, m, rfl⟩
       have ol2 : RowR w0 w0.heap.size Al l := RowR.of_own (by rw [hnn.out ()]; exact ol)
       have hcl := ol.le
       have hpc := Lib.hid (hpl.out m _ cl ol2)
       have rT := Lib.hid (RowR.take ol2 p cl (by have := hnn.out (); omega))
       have rD := Lib.hid (RowR.drop ol2 p cl (by have := hnn.out (); omega) (by have := hnn.out (); omega))
       have sl1 := fun W => slice_hR Al n cl p (by omega) W
       clear ol ol2)
    | (refine wpList_slL rfl _ _ rfl (A := Al) (n := n) (c := cl) (i := p) rfl rfl hqn ?_)
    | (go_at_call 54; refine hpc.out.mono ?_; rintro e w8 ⟨rfl, m2, rfl⟩)
    | (at_builtin; refine wpList_appR (w0.drewN m2) rfl _ _ rfl rfl (Own.nil _ w0.heap.size _ _) (l.take p) tl.out rfl (show RowR (w0.drewN m2) _ _ _ from rT.out) (by omega) (Nat.le_refl _) p (by omega) ?_
       intro A1 c1 wA oA atA bA
       have oA' := Lib.hid oA
       have bA' := Lib.hid ((below_drewN (Below.refl w0.heap.size w0) m2).trans bA)
       have xkA := Lib.hid ((bA'.out.block w.heap.size (Array.getElem?_eq_some_iff.1 xk0.out).1).trans xk0.out)
       clear oA atA bA)
    | (refine wpList_load_row rfl 35 _ rfl w.heap.size rfl 35 (encKy k).toArray (0, 0) _ xkA.out Try.underlying35 rfl (by rw [a32.out]; exact hi32.out) ?_)
    | (refine wpList_bRt rfl s k _ _ rfl rfl rfl ?_)
    | (refine Great.wpList_buildSliceTo rfl 24 61 1 _ rfl _ rfl _ rfl Try.underlying24 (encR (s, k)).toArray (by rw [List.map_toArray]; exact builtR (s, k)) ?_)
    | (at_builtin; refine wpList_app1 elR wA (encR (s, k)).toArray (by simp [encR_length]) rfl _ _ rfl rfl oA'.out rfl (by intro u hu; exact encR_one (s, k) u (by simpa using hu)) (by unfold maxLen; omega) (by omega) bA'.out.size (p + 1) rfl (rowsR (l.take p ++ [(s, k)])) (by rw [rowsR_snoc]; simp) ?_
       intro A2 c2 wB oB atB bB
       have oB' := Lib.hid oB
       have bB' := Lib.hid (bA'.out.trans bB)
       clear oB atB bB)
    | (at_builtin; refine wpList_appR wB rfl _ _ rfl rfl oB'.out (l.drop p) dl.out rfl (Rd.below rD.out bB'.out) (by omega) bB'.out.size (p + 1 + (n - p)) rfl ?_
       intro A3 c3 wC oC atC bC
       have bC' := Lib.hid (bB'.out.trans bC)
       have oC' : Hid (Own wC w0.heap.size 61 33 A3 (setL (s, k) l).length c3 (rowsR (setL (s, k) l))) := Lib.hid (by
         rw [hnl.out, hnew.out]
         simpa [rowsR] using oC)
       have hwC := Lib.hid (hb0.out.trans (bC'.out.mono hsz.out))
       have cC := (hD.out.below hwC.out).cell
       have oV := Lib.hid (hD.out.below hwC.out).own
       have hBC : Hid (B ≤ wC.heap.size) := Lib.hid (Nat.le_trans (Nat.le_trans hD.out.gB (Nat.le_of_lt hD.out.lt)) hwC.out.size)
       clear oC atC bC)
    | (at_builtin; refine wpList_app1 elLs wC #[.slice A3 (p + 1 + (n - p)) c3] rfl rfl _ _ rfl rfl oV.out rfl (by intro u hu; simp at hu; subst hu; rfl) (by unfold maxLen; omega) (by omega) hBC.out (L.length + 1) rfl (ps ++ [.slice A3 (setL (s, k) l).length c3]) (by rw [hnl.out]; try rfl) ?_
       intro A4 c4 wD oD atD bD
       have mo := Lib.hid (hD.out.more hwC.out (oC'.out.base hsz.out) (by have := hnl.out; omega) oD atD hmany)
       obtain ⟨q4, f4⟩ := hD.out.mid hwC.out atD
       clear oD atD bD))
  go_ret
  exact ⟨rfl, mo.out⟩
end Go.Proofs.Ytakcnkmlglkkpaa

namespace Go.Proofs.Ytakcnkmlglkkpaa
open Go.RowKit
set_option linter.unusedSimpArgs false
set_option linter.unusedVariables false
open Classical

set_option maxRecDepth 100000 in
set_option maxHeartbeats 8000000 in
theorem ddrop_true (w : World) {B g c : Nat} {A : Option Addr} {L : Lists} {ps : List Value} (h : Doc w B g A c L ps) (hmany : L.length < 100000) (s : ByteArray) (hs : Name s) (hth : thereQ s (present L) = true) :
    Calls Try.prog 37 #[.pointer (some ⟨g, 0, none⟩), .string s] w fun e w' => e = .returned (.int .i64 0) ∧ ChdD w B g A (L ++ [dropL s (present L)]) w' := by
  obtain ⟨w0, hw0⟩ : ∃ w0, w = w0 := ⟨_, rfl⟩
  have hb0 : Hid (Below w.heap.size w w0) := Lib.hid (by rw [← hw0]; exact Below.refl _ _)
  have hD := Lib.hid h
  have hsz : Hid (w.heap.size ≤ w0.heap.size) := Lib.hid hb0.out.size
  have hn := Lib.hid (dnow_any w0 (h.below hb0.out))
  have h64 : (present L).length ≤ 64 := h.few _ (List.mem_of_getElem? (present_last h.ne))
  have hN := Lib.hid fun W => refNamed_yes hs W
  obtain ⟨l, hl⟩ : ∃ l, Hid (∀ _ : Unit, present L = l) := ⟨_, Lib.hid fun _ => rfl⟩
  obtain ⟨n, hnn⟩ : ∃ n, Hid (∀ _ : Unit, l.length = n) := ⟨_, Lib.hid fun _ => rfl⟩
  rw [hl.out ()] at hn h64 hth ⊢
  rw [hnn.out ()] at hn h64
  have hpl : Hid (∀ (m : Nat) (Al : Option Addr) (cl : Nat), RowR w0 w0.heap.size Al l → Calls Try.prog 54 #[.slice Al n cl, .string s] (w0.drewN m) fun e w' => e = .returned (.tuple #[.int .i64 (placeQ s l : Nat), .bool true]) ∧ ∃ m, w' = w0.drewN m) := Lib.hid fun m Al cl hR => by
    rw [← hth]
    refine (place_any (w0.drewN m) l Al n cl w0.heap.size s (hnn.out ()) (by omega) hR).mono ?_
    rintro e w' ⟨h1, m2, rfl⟩
    exact ⟨h1, m + m2, by simp⟩
  have hnew : Hid (dropL s l = l.take (placeQ s l) ++ l.drop (placeQ s l + 1)) := Lib.hid (dropL_place s l hth)
  have hpn : placeQ s l < n := by
    obtain ⟨x, hx, _⟩ := there_at hth
    rw [← hnn.out ()]
    exact (List.getElem?_eq_some_iff.1 hx).1
  obtain ⟨p, hp⟩ : ∃ p, Hid (∀ _ : Unit, placeQ s l = p) := ⟨_, Lib.hid fun _ => rfl⟩
  rw [hp.out ()] at hpl hpn hnew
  obtain ⟨q, hq⟩ : ∃ q : Nat, Hid (∀ _ : Unit, p + 1 = q) := ⟨_, Lib.hid fun _ => rfl⟩
  rw [hq.out ()] at hnew
  have hqn : q ≤ n := by have := hq.out (); omega
  have hqi : (p : Int) + 1 = (q : Int) := by have := hq.out (); omega
  have wq : IntKind.i64.wrap (q : Int) = (q : Int) := by rw [IntKind.wrap_i64]; omega
  have tl : Hid ((l.take p).length = p) := Lib.hid (by rw [List.length_take]; have := hnn.out (); omega)
  have dl : Hid ((l.drop q).length = n - q) := Lib.hid (by rw [List.length_drop]; have := hnn.out (); omega)
  have hnl : Hid ((dropL s l).length = p + (n - q)) := Lib.hid (by rw [hnew.out]; simp only [List.length_append, List.length_cons, tl.out, dl.out]; try omega)
  clear h hth hs
  subst hw0
  go_enter Try.func37, Try.ntmps37
  go_wp2_with (first
    | (go_at_call 11; refine (hN.out _).mono ?_; rintro e w9 ⟨rfl, rfl⟩)
    | (go_at_call 53
       refine hn.out.mono ?_
       rintro e w1 ⟨⟨Al, cl, rfl, ol⟩, m, rfl⟩
       have ol2 : RowR w w.heap.size Al l := RowR.of_own (by rw [hnn.out ()]; exact ol)
       have hcl := ol.le
       have hpc := Lib.hid (hpl.out m _ cl ol2)
       have rT := Lib.hid (RowR.take ol2 p cl (by have := hnn.out (); omega))
       have rD := Lib.hid (RowR.drop ol2 q cl (by have := hnn.out (); omega) (by have := hnn.out (); omega))
       have sl1 := fun W => slice_hR Al n cl p (by omega) W
       clear ol ol2)
    | (refine wpList_slL rfl _ _ rfl (A := Al) (n := n) (c := cl) (i := q) rfl rfl hqn ?_)
    | (go_at_call 54; refine hpc.out.mono ?_; rintro e w8 ⟨rfl, m2, rfl⟩)
    | (at_builtin; refine wpList_appR (w.drewN m2) rfl _ _ rfl rfl (Own.nil _ w.heap.size _ _) (l.take p) tl.out rfl (show RowR (w.drewN m2) _ _ _ from rT.out) (by omega) (Nat.le_refl _) p (by omega) ?_
       intro A1 c1 wA oA atA bA
       have oA' := Lib.hid oA
       have bA' := Lib.hid ((below_drewN (Below.refl w.heap.size w) m2).trans bA)
       clear oA atA bA)
    | (at_builtin; refine wpList_appR wA rfl _ _ rfl rfl oA'.out (l.drop q) dl.out rfl (Rd.below rD.out bA'.out) (by omega) bA'.out.size (p + (n - q)) rfl ?_
       intro A3 c3 wC oC atC bC
       have bC' := Lib.hid (bA'.out.trans bC)
       have oC' : Hid (Own wC w.heap.size 61 33 A3 (dropL s l).length c3 (rowsR (dropL s l))) := Lib.hid (by
         rw [hnl.out, hnew.out]
         simpa [rowsR] using oC)
       have hwC := Lib.hid (hb0.out.trans (bC'.out.mono hsz.out))
       have cC := (hD.out.below hwC.out).cell
       have oV := Lib.hid (hD.out.below hwC.out).own
       have hBC : Hid (B ≤ wC.heap.size) := Lib.hid (Nat.le_trans (Nat.le_trans hD.out.gB (Nat.le_of_lt hD.out.lt)) hwC.out.size)
       clear oC atC bC)
    | (at_builtin; refine wpList_app1 elLs wC #[.slice A3 (p + (n - q)) c3] rfl rfl _ _ rfl rfl oV.out rfl (by intro u hu; simp at hu; subst hu; rfl) (by unfold maxLen; omega) (by omega) hBC.out (L.length + 1) rfl (ps ++ [.slice A3 (dropL s l).length c3]) (by rw [hnl.out]; try rfl) ?_
       intro A4 c4 wD oD atD bD
       have mo := Lib.hid (hD.out.more hwC.out (oC'.out.base hsz.out) (by have := hnl.out; omega) oD atD hmany)
       obtain ⟨q4, f4⟩ := hD.out.mid hwC.out atD
       clear oD atD bD))
  go_ret
  exact ⟨rfl, mo.out⟩
end Go.Proofs.Ytakcnkmlglkkpaa

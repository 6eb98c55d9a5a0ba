/- ObjectBack: the arguments opened. gleanerlaw04.grown: what was there stands, but for the block that is appended to. gleanerlaw04.Few: is an object small? What ObjectFresh's walk leans on: what stands while some blocks are written over. -/
import Derived.Test.YtkjndgapejbgcaaDoorPkE4
import Derived.Test.YtkjndgapejbgcaaDoorPkD25
import Derived.Test.YtkjndgapejbgcaaDoorPkE2
import Derived.Test.YtkjndgapejbgcaaDoorPkD4

namespace Go.Proofs.YtkjndgapejbgcaaDoor
open Go.RowKit Go.ChangeShapes Go.WideShapes

theorem objectBack_any (w : World) (o : ObjT) (p : Lay) (hm : EncIn w o p) (ks : List Nat) (hT : ShaT w ks) (A : Option Addr) (l : List Nat) (L c : Nat) (hl : l.length = L) (hA : A = none → L = 0 ∧ c = 0) (hb : Byt w w.heap.size A l) (hs : L ≤ 140737488355328) (h256 : ∀ x ∈ l, x < 256) :
    Calls Tryd.prog 9 #[.agg (ocells o p).toArray, .slice A L c] w fun e w' => e = .returned (.bool true) ∧ Below w.heap.size w w' := by
  obtain ⟨F, O, hD⟩ : ∃ F O, decM l = (F, O) := ⟨_, _, rfl⟩
  by_cases hE : encE o = 0
  · by_cases hF : F = 0
    · subst hF
      exact back_ok_yes w o p hm ks hT A l L c hl hA hb hs h256 hE O hD
    · exact back_ok_no w o p hm ks hT A l L c hl hA hb hs h256 hE F O hD hF
  · by_cases hF : F = 0
    · subst hF
      exact back_bad_yes w o p hm ks hT A l L c hl hA hb hs h256 _ rfl hE O hD
    · exact back_bad_no w o p hm ks hT A l L c hl hA hb hs h256 _ rfl hE F O hD hF
/-- A slice that is nil has no room. -/
theorem arg_nil {H : Type} {enc : TypeId × Value → H} {P : Program} {W : World} {t e : TypeId} {A : Option Addr} {n c base : Nat} {spare : Nat → Bool} {held : Bool} {d : DataW H} {ps : List MemPlace} (ht : P.underlying t = some (.slice e)) (h : DataW.Trod enc P W base spare held t (.slice A n c) d ps) : A = none → n = 0 ∧ c = 0 := by
  rintro rfl
  obtain ⟨fuel, hf⟩ := h
  rcases Go.Deep.open_slice ht hf with ⟨hv, _⟩ | ⟨a, len, cap, m, k, D, Pl, hv, _⟩
  · simp [Value.cells] at hv
    exact hv
  · simp [Value.cells] at hv

set_option maxRecDepth 100000 in
theorem objectBack_calls {H : Type} {enc : TypeId × Value → H} (W : World) (base : Nat) (v0 v1 : Value) (d0 d1 : DataW H) (p0 p1 : List MemPlace)
    (o0 : Value.okWide Tryd.prog W .any base 31 v0) (h0 : DataW.Trod enc Tryd.prog W 0 (fun _ => true) true 31 v0 d0 p0)
    (o1 : Value.okWide Tryd.prog W .any base 24 v1) (h1 : DataW.Trod enc Tryd.prog W 0 (fun _ => true) true 24 v1 d1 p1)
    (hsz : (DataW.weightsEach Tryd.prog [31, 24] [d0, d1]).all (· ≤ reachBytes) = true)
    (ha : Lib.VarReads Tryd.prog W "unicode/utf8.acceptRanges" Lib.acceptData)
    (t0 : Lib.TabIs Tryd.prog W "gleaner/gleanerref02.added" .u64 [1116352408, 1899447441, 3049323471, 3921009573, 961987163, 1508970993, 2453635748, 2870763221, 3624381080, 310598401, 607225278, 1426881987, 1925078388, 2162078206, 2614888103, 3248222580, 3835390401, 4022224774, 264347078, 604807628, 770255983, 1249150122, 1555081692, 1996064986, 2554220882, 2821834349, 2952996808, 3210313671, 3336571891, 3584528711, 113926993, 338241895, 666307205, 773529912, 1294757372, 1396182291, 1695183700, 1986661051, 2177026350, 2456956037, 2730485921, 2820302411, 3259730800, 3345764771, 3516065817, 3600352804, 4094571909, 275423344, 430227734, 506948616, 659060556, 883997877, 958139571, 1322822218, 1537002063, 1747873779, 1955562222, 2024104815, 2227730452, 2361852424, 2428436474, 2756734187, 3204031479, 3329325298])
    (t1 : Lib.TabIs Tryd.prog W "gleaner/gleanerref02.begin" .u64 [1779033703, 3144134277, 1013904242, 2773480762, 1359893119, 2600822924, 528734635, 1541459225])
    (t2 : Lib.TabIs Tryd.prog W "gleaner/sha.added" .u32 [1116352408, 1899447441, 3049323471, 3921009573, 961987163, 1508970993, 2453635748, 2870763221, 3624381080, 310598401, 607225278, 1426881987, 1925078388, 2162078206, 2614888103, 3248222580, 3835390401, 4022224774, 264347078, 604807628, 770255983, 1249150122, 1555081692, 1996064986, 2554220882, 2821834349, 2952996808, 3210313671, 3336571891, 3584528711, 113926993, 338241895, 666307205, 773529912, 1294757372, 1396182291, 1695183700, 1986661051, 2177026350, 2456956037, 2730485921, 2820302411, 3259730800, 3345764771, 3516065817, 3600352804, 4094571909, 275423344, 430227734, 506948616, 659060556, 883997877, 958139571, 1322822218, 1537002063, 1747873779, 1955562222, 2024104815, 2227730452, 2361852424, 2428436474, 2756734187, 3204031479, 3329325298])
    (hf : Lib.VarReads Tryd.prog W "unicode/utf8.first" Lib.firstData) :
    Calls Tryd.prog 9 #[v0, v1] W fun e W' => e = .returned (.bool true) ∧ Below W.heap.size W W' := by
  obtain ⟨a, p, rfl, hi, fa, hg⟩ := object_open W base v0 d0 p0 o0 h0 (jj := 0) hsz rfl rfl
  obtain ⟨A, cap, l, rfl, _, _, e3, e4, e5⟩ := arg_bytes Tryd.underlying24 Tryd.underlying5 (by kernel_rfl) o1 h1
  have hl := e4.reach (j := 1) (size := 1) hsz rfl rfl Tryd.underlying24 (by kernel_rfl)
  have hn := arg_nil Tryd.underlying24 h1
  have r := Below.refl W.heap.size W
  exact objectBack_any W a p (enc_in (u8t_of ⟨ha, hf⟩) hi fa hg) ksL ⟨tab_sha t2 W r, tab_ref t0 W r, tab_begin t1 W r, ksL_length, ksL_lt⟩ A l l.length cap rfl hn e3 (by omega) e5
end Go.Proofs.YtkjndgapejbgcaaDoor

namespace Go.Proofs.YtkjndgapejbgcaaDoor
open Go.RowKit
set_option linter.unusedSimpArgs false
set_option linter.unusedVariables false

theorem grown_newr {w w2 w3 : World} {r : Option Nat} {N : Nat} (h : w.grownBy w2 r) (hN : w.heap.size ≤ N) (h3 : w2.grownBy w3 (some N)) : w.grownBy w3 r :=
  ⟨h3.os.trans h.os, h3.tape.trans h.tape, h3.output.trans h.output, Nat.le_trans h.size h3.size, fun k hk hne => (h3.block k (Nat.lt_of_lt_of_le hk h.size) (fun e => by injection e with e; omega)).trans (h.block k hk hne)⟩
/-- Only A's block, and new ones, have changed; A' lies in A's block or in a new one. -/
def GrA (w wr : World) (A A' : Option Addr) : Prop := w.grownBy wr (blockOf A) ∧ (blockOf A' = blockOf A ∨ ∃ k, blockOf A' = some k ∧ w.heap.size ≤ k)
theorem GrA.start (w : World) (A : Option Addr) : GrA w w A A := ⟨⟨rfl, rfl, rfl, Nat.le_refl _, fun _ _ _ => rfl⟩, .inl rfl⟩
theorem GrA.step {w wr w2 : World} {A A' A2 : Option Addr} (h : GrA w wr A A') (ha : AppAt wr w2 A' A2) : GrA w w2 A A2 := by
  have hs := h.1.size
  rcases ha with ⟨e, g⟩ | ⟨k, e, hk, g⟩
  · rcases h.2 with e2 | ⟨j, e2, hj⟩
    · rw [e2] at g e
      exact ⟨h.1.trans g, .inl e⟩
    · rw [e2] at g e
      exact ⟨grown_newr h.1 hj g, .inr ⟨j, e, hj⟩⟩
  · exact ⟨h.1.trans ⟨g.os, g.tape, g.output, g.size, fun k hk _ => g.block k hk (by simp)⟩, .inr ⟨k, e, by omega⟩⟩
theorem GrA.alloc {w wr : World} {A A' : Option Addr} (h : GrA w wr A A') (o : Obj) : GrA w (wr.alloc o) A A' :=
  ⟨h.1.trans (grown_below' ((Below.refl _ _).alloc (Nat.le_refl _) _)), h.2⟩
theorem zero100 (w : World) : (zeroValue 86).run Tryd.prog w = .ok (.agg (u8s (zeros 100)).toArray) w :=
  (zero_of_info (P := Tryd.prog) (t := 86) (v := .agg (u8s (zeros 100)).toArray) (n := 100) (by kernel_rfl)).1 w
set_option maxRecDepth 100000 in
set_option maxHeartbeats 4000000 in
theorem grown_any (w : World) {B n c : Nat} {A : Option Addr} {xs : List Value} (h : Own w B 5 1 A n c xs) (hn : n ≤ 70368744177000) (hB : B ≤ w.heap.size) :
    Calls Tryd.prog 26 #[.slice A n c] w fun e w' => (∃ A' n' c', e = .returned (.slice A' n' c')) ∧ w.grownBy w' (blockOf A) := by
  have hz := zero100
  have h' := Lib.hid h
  have hB' := Lib.hid hB
  clear h hB
  go_enter Tryd.func26, Tryd.ntmps26
  go_wp2_with fail
  go_loopw [0, 3] (fun sv iv wr => ∃ (k c1 : Nat) (A1 : Option Addr) (ys : List Value), k ≤ 16 ∧ iv = .int .i64 (k : Int) ∧ sv = .slice A1 (n + k) c1 ∧ Hid (Own wr B 5 1 A1 (n + k) c1 ys) ∧ Hid (GrA w wr A A1)) (fun _ iv _ => 16 - (intOf iv).toNat)
  case atStart => exact ⟨0, c, A, xs, by omega, rfl, rfl, h', Lib.hid (GrA.start w A)⟩
  case round =>
    obtain ⟨k, c1, A1, ys, hk, rfl, rfl, ho, hg⟩ := hrel
    have hgs := Lib.hid hg.out.1.size
    by_cases hlt : k < 16
    · go_wp2_with (first
        | (at_builtin; refine wpList_app1 elB _ #[_] rfl rfl _ _ rfl rfl ho.out rfl (by intro u hu; simp at hu; subst hu; rfl) (by unfold maxLen; omega) (by omega) (by have := hgs.out; have := hB'.out; omega) (n + k + 1) rfl (ys ++ [.int .u8 119]) rfl ?_
           intro A2 c2 w2 o2 at2 _
           have hg2 := Lib.hid (hg.out.step at2)
           have o2' := Lib.hid o2
           clear o2 at2))
      go_round
      case rel => exact ⟨k + 1, c2, A2, ys ++ [.int .u8 119], by omega, by go_num, rfl, o2', hg2⟩
      case measure => simp [intOf]; omega
    · have hby : Hid (Byt (wr.alloc (.cells (u8s (zeros 100)).toArray 86)) (wr.heap.size + 1) (some ⟨wr.heap.size, 0, none⟩) (zeros 100)) := Lib.hid fun _ => ⟨wr.heap.size, 0, rfl, by omega, fun j hj => by
        have := heap_alloc_new wr (.cells (u8s (zeros 100)).toArray 86)
        rw [Nat.zero_add]
        simp only [World.cell?, this]
        simpa using u8s_get _ _ hj⟩
      have hoA := Lib.hid (ho.out.alloc (.cells (u8s (zeros 100)).toArray 86))
      have hBA : Hid (B ≤ (wr.alloc (.cells (u8s (zeros 100)).toArray 86)).heap.size) := Lib.hid (by have := hgs.out; have := hB'.out; simp; omega)
      have hgA := Lib.hid (hg.out.alloc (.cells (u8s (zeros 100)).toArray 86))
      go_wp2_with (first
        | (at_builtin; refine wpList_app elB _ rfl (.tmp 12) (.tmp 13) rfl rfl hoA.out rfl (m := 100) (g := fun j => .int .u8 (((zeros 100)[j]?.getD 0 : Nat) : Int)) hby.out (fun _ _ => rfl) (by unfold maxLen; omega) (by omega) hBA.out (n + k + 100) rfl _ rfl ?_
           intro A2 c2 w2 o2 at2 _
           have hg2 := Lib.hid (hgA.out.step at2)
           clear o2 at2))
      go_ret
      exact ⟨⟨_, _, _, rfl⟩, hg2.out.1⟩
end Go.Proofs.YtkjndgapejbgcaaDoor

namespace Go.Proofs.YtkjndgapejbgcaaDoor
open Go.RowKit
set_option linter.unusedSimpArgs false
set_option linter.unusedVariables false

def fewB (o : ObjT) : Bool := decide (o.data.length ≤ 65536) && decide (o.parts.length ≤ 4096) && decide (o.items.length ≤ 4096) && decide (o.parents.length ≤ 4096)
set_option maxRecDepth 100000 in
set_option maxHeartbeats 4000000 in
theorem few_any (w : World) (o : ObjT) (p : Lay) {R : Bool} (hR : fewB o = R) :
    Calls Tryd.prog 25 #[.agg (ocells o p).toArray] w fun e w' => e = .returned (.bool R) ∧ Below w.heap.size w w' := by
  subst hR
  have h0 : OBlk (w.alloc (.cells (ocells o p).toArray 31)) w.heap.size o p := heap_alloc_new w _
  have hB := Lib.hid ((Below.refl w.heap.size w).alloc (Nat.le_refl _) (.cells (ocells o p).toArray 31))
  have c1 := h0.c1
  have c2 := h0.c2
  have c3 := h0.c3
  have c5 := h0.c36
  clear h0
  obtain ⟨R, hR⟩ : ∃ R, Hid (∀ _ : Unit, fewB o = R) := ⟨_, Lib.hid fun _ => rfl⟩
  rw [hR.out ()]
  by_cases h1 : o.data.length ≤ 65536
  · have i1 : (o.data.length : Int) ≤ 65536 := by omega
    have k1 := Lib.hid h1
    clear h1
    by_cases h2 : o.parts.length ≤ 4096
    · have i2 : (o.parts.length : Int) ≤ 4096 := by omega
      have k2 := Lib.hid h2
      clear h2
      by_cases h3 : o.items.length ≤ 4096
      · have i3 : (o.items.length : Int) ≤ 4096 := by omega
        have k3 := Lib.hid h3
        clear h3
        by_cases h4 : o.parents.length ≤ 4096
        · have i4 : (o.parents.length : Int) ≤ 4096 := by omega
          have k4 := Lib.hid h4
          clear h4
          go_enter Tryd.func25, Tryd.ntmps25
          go_wp2_with fail
          go_ret
          rw [← hR.out ()]
          exact ⟨by simp [fewB, k1.out, k2.out, k3.out, k4.out], hB.out⟩
        · have i4 : ¬ (o.parents.length : Int) ≤ 4096 := by omega
          have k4 := Lib.hid h4
          clear h4
          go_enter Tryd.func25, Tryd.ntmps25
          go_wp2_with fail
          go_ret
          rw [← hR.out ()]
          exact ⟨by simp [fewB, k4.out], hB.out⟩
      · have i3 : ¬ (o.items.length : Int) ≤ 4096 := by omega
        have k3 := Lib.hid h3
        clear h3
        go_enter Tryd.func25, Tryd.ntmps25
        go_wp2_with fail
        go_ret
        rw [← hR.out ()]
        exact ⟨by simp [fewB, k3.out], hB.out⟩
    · have i2 : ¬ (o.parts.length : Int) ≤ 4096 := by omega
      have k2 := Lib.hid h2
      clear h2
      go_enter Tryd.func25, Tryd.ntmps25
      go_wp2_with fail
      go_ret
      rw [← hR.out ()]
      exact ⟨by simp [fewB, k2.out], hB.out⟩
  · have i1 : ¬ (o.data.length : Int) ≤ 65536 := by omega
    have k1 := Lib.hid h1
    clear h1
    go_enter Tryd.func25, Tryd.ntmps25
    go_wp2_with fail
    go_ret
    rw [← hR.out ()]
    exact ⟨by simp [fewB, k1.out], hB.out⟩
end Go.Proofs.YtkjndgapejbgcaaDoor

namespace Go.Proofs.YtkjndgapejbgcaaDoor
open Go.RowKit
set_option linter.unusedSimpArgs false
set_option linter.unusedVariables false

/-- Only blocks from lo up to hi, and new ones, have changed. -/
structure Gap (lo hi : Nat) (w w' : World) : Prop where
  os : w'.os = w.os
  tape : w'.tape = w.tape
  output : w'.output = w.output
  size : w.heap.size ≤ w'.heap.size
  block : ∀ k, k < w.heap.size → (k < lo ∨ hi ≤ k) → w'.heap[k]? = w.heap[k]?
section
variable {lo hi : Nat} {a b c w w' : World}
theorem Gap.refl (w : World) : Gap lo hi w w := ⟨rfl, rfl, rfl, Nat.le_refl _, fun _ _ _ => rfl⟩
theorem Gap.trans (h : Gap lo hi a b) (h2 : Gap lo hi b c) : Gap lo hi a c :=
  ⟨h2.os.trans h.os, h2.tape.trans h.tape, h2.output.trans h.output, Nat.le_trans h.size h2.size, fun k hk hr => (h2.block k (Nat.lt_of_lt_of_le hk h.size) hr).trans (h.block k hk hr)⟩
theorem Gap.grown (h : Gap lo hi a b) {r : Option Nat} (g : b.grownBy c r) (hr : ∀ k, r = some k → k < a.heap.size → lo ≤ k ∧ k < hi) : Gap lo hi a c :=
  ⟨g.os.trans h.os, g.tape.trans h.tape, g.output.trans h.output, Nat.le_trans h.size g.size, fun k hk ho => (g.block k (Nat.lt_of_lt_of_le hk h.size) (fun e => by have := hr k e.symm hk; omega)).trans (h.block k hk ho)⟩
theorem Gap.bel (h : Gap lo hi a b) (hb : Below b.heap.size b c) : Gap lo hi a c :=
  ⟨hb.os.trans h.os, hb.tape.trans h.tape, hb.output.trans h.output, Nat.le_trans h.size hb.size, fun k hk ho => (hb.block k (Nat.lt_of_lt_of_le hk h.size)).trans (h.block k hk ho)⟩
theorem Gap.below (h : Gap lo hi w w') {B : Nat} (h1 : B ≤ lo) (h2 : B ≤ w.heap.size) : Below B w w' := ⟨h.os, h.tape, h.output, h.size, fun k hk => h.block k (by omega) (.inl (by omega))⟩
theorem Gap.keep (h : Gap lo hi w w') {g : Nat} {o : Obj} (hg : w.heap[g]? = some o) (hl : g < w.heap.size) (ho : g < lo ∨ hi ≤ g) : w'.heap[g]? = some o := (h.block g hl ho).trans hg
theorem Own.gap {B : Nat} {e : TypeId} {size n k : Nat} {A : Option Addr} {xs : List Value} (h : Own w B e size A n k xs) (hg : Gap lo hi w w') (hA : ∀ j, blockOf A = some j → j < lo ∨ hi ≤ j) : Own w' B e size A n k xs := by
  refine ⟨h.1, ?_⟩
  have hlt := h.lt
  rcases h.2 with h2 | ⟨g, cap, cur, hv, hb, hh, r⟩
  · exact Or.inl h2
  · refine Or.inr ⟨g, cap, cur, hv, hb, ?_, r⟩
    have hA2 : blockOf A = some g := by injection hv with h1; rw [h1]; rfl
    rw [hg.block g (hlt g hA2).2 (hA g hA2)]
    exact hh
theorem OOwn.gap {B : Nat} {o : ObjT} {p : Lay} (h : OOwn w B o p) (hg : Gap lo hi w w') (hB : hi ≤ B) : OOwn w' B o p :=
  ⟨h.d.gap hg fun j hj => .inr (by have := (h.d.lt j hj).1; omega), h.ps.gap hg fun j hj => .inr (by have := (h.ps.lt j hj).1; omega), h.xs.gap hg fun j hj => .inr (by have := (h.xs.lt j hj).1; omega), h.ks.gap hg fun j hj => .inr (by have := (h.ks.lt j hj).1; omega)⟩
end
/-- Rows of unlike elements lie in unlike blocks. -/
theorem Own.unlike {w : World} {B B2 e e2 size size2 n n2 c c2 : Nat} {A A2 : Option Addr} {xs ys : List Value} (h : Own w B e size A n c xs) (h2 : Own w B2 e2 size2 A2 n2 c2 ys) (he : e ≠ e2) : Dis A A2 := by
  intro k hk hk2
  rcases h.2 with ⟨hv, _⟩ | ⟨g, cap, cur, hv, _, hh, _⟩
  · injection hv with h1
    rw [h1] at hk
    cases hk
  · rcases h2.2 with ⟨hv2, _⟩ | ⟨g2, cap2, cur2, hv2, _, hh2, _⟩
    · injection hv2 with h1
      rw [h1] at hk2
      cases hk2
    · injection hv with h1
      injection hv2 with h3
      rw [h1] at hk
      rw [h3] at hk2
      have e1 : g = k := by injection hk
      have e2' : g2 = k := by injection hk2
      subst e1
      subst e2'
      rw [hh] at hh2
      injection hh2 with hh2
      injection hh2 with _ h4
      exact he h4
/-- A number stands at place off of each of n elements. -/
def Has8 (xs : List Value) (st off n : Nat) (k : IntKind) : Prop := ∀ i, i < n → ∃ z : Int, xs[i * st + off]? = some (.int k z)
theorem Has8.put {xs : List Value} {st off n : Nat} {k : IntKind} (h : Has8 xs st off n k) (j : Nat) (z : Int) : Has8 (xs.set j (.int k z)) st off n k := by
  intro i hi
  obtain ⟨y, hy⟩ := h i hi
  rw [List.getElem?_set]
  split
  · rename_i he
    rw [he, if_pos (List.getElem?_eq_some_iff.1 hy).1]
    exact ⟨z, rfl⟩
  · exact ⟨y, hy⟩
theorem has8_u8 (l : List Nat) {n : Nat} (hn : l.length = n) : Has8 (u8s l) 1 0 n .u8 := by
  intro i hi
  rw [Nat.mul_one, Nat.add_zero, u8s_get l i (by omega)]
  exact ⟨_, rfl⟩
theorem has8_flat {α : Type} {enc : α → List Value} {st off : Nat} {k : IntKind} (hs : ∀ x, (enc x).length = st) (he : ∀ x, ∃ z : Int, (enc x)[off]? = some (.int k z)) (ho : off < st) : ∀ (l : List α) (n : Nat), l.length = n → Has8 (flat enc l) st off n k
  | [], n, hn, i, hi => by simp at hn; omega
  | x :: l, n, hn, i, hi => by
    have hf : flat enc (x :: l) = enc x ++ flat enc l := rfl
    rw [hf]
    cases i with
    | zero =>
      rw [Nat.zero_mul, Nat.zero_add, List.getElem?_append_left (by rw [hs]; exact ho)]
      exact he x
    | succ i =>
      obtain ⟨z, hz⟩ := has8_flat hs he ho l (n - 1) (by simp at hn; omega) i (by simp at hn; omega)
      refine ⟨z, ?_⟩
      rw [List.getElem?_append_right (by rw [hs, Nat.succ_mul]; omega), hs, ← hz]
      congr 1
      rw [Nat.succ_mul]
      omega
theorem has8_p (l : List PartT) {n : Nat} (hn : l.length = n) : Has8 (flat encP l) 33 32 n .u64 :=
  has8_flat encP_length (fun x => ⟨(x.2 : Int), by
    obtain ⟨⟨k, hk⟩, z⟩ := x
    simp [encP, encK, u8s, hk]⟩) (by decide) l n hn
theorem has8_k (l : List Key32) {n : Nat} (hn : l.length = n) : Has8 (flat encK l) 32 5 n .u8 :=
  has8_flat encK_length (fun x => ⟨((x.1[5]?.getD 0 : Nat) : Int), by
    have h5 : 5 < x.1.length := by rw [x.2]; decide
    unfold encK
    exact u8s_get _ _ h5⟩) (by decide) l n hn

/-- The object that is written over: its block S, its lists in blocks from lo up to S. -/
structure PS (lo hi : Nat) (w wr : World) (S : Nat) (o : ObjT) (p : Lay) : Prop where
  gap : Gap lo hi w wr
  blk : OBlk wr S o p
  ls : lo ≤ S ∧ S < hi
  d : ∃ xs, Own wr lo 5 1 p.Ad o.data.length p.cd xs ∧ Has8 xs 1 0 o.data.length .u8
  ps : ∃ xs, Own wr lo 47 33 p.Ap o.parts.length p.cp xs ∧ Has8 xs 33 32 o.parts.length .u64
  xs : ∃ xs, Own wr lo 50 35 p.Ai o.items.length p.ci xs
  ks : ∃ xs, Own wr lo 28 32 p.Ak o.parents.length p.ck xs ∧ Has8 xs 32 5 o.parents.length .u8
  far : ∀ A, A = p.Ad ∨ A = p.Ap ∨ A = p.Ai ∨ A = p.Ak → ∀ j, blockOf A = some j → lo ≤ j ∧ j < S
section
variable {lo hi S : Nat} {w wr : World} {o : ObjT} {p : Lay}
theorem PS.start {B : Nat} (h : OOwn wr B o p) (hb : OBlk wr S o p) (hg : Gap lo hi w wr) (hl : lo ≤ B) (hS : lo ≤ S ∧ S < hi) (hf : ∀ A, A = p.Ad ∨ A = p.Ap ∨ A = p.Ai ∨ A = p.Ak → ∀ j, blockOf A = some j → j < S) : PS lo hi w wr S o p :=
  ⟨hg, hb, hS, ⟨_, h.d.base hl, has8_u8 _ rfl⟩, ⟨_, h.ps.base hl, has8_p _ rfl⟩, ⟨_, h.xs.base hl⟩, ⟨_, h.ks.base hl, has8_k _ rfl⟩, fun A hA j hj => ⟨by
    rcases hA with rfl | rfl | rfl | rfl
    · have := (h.d.lt j hj).1; omega
    · have := (h.ps.lt j hj).1; omega
    · have := (h.xs.lt j hj).1; omega
    · have := (h.ks.lt j hj).1; omega, hf A hA j hj⟩⟩
theorem PS.gapS (h : PS lo hi w wr S o p) {g j : Nat} {v : Value} {A : Option Addr} (hA : A = p.Ad ∨ A = p.Ap ∨ A = p.Ai ∨ A = p.Ak) (hg : blockOf A = some g) : Gap lo hi w (wr.setCell ⟨g, j, none⟩ v) ∧ OBlk (wr.setCell ⟨g, j, none⟩ v) S o p := by
  have hf := h.far A hA g hg
  exact ⟨h.gap.grown (grown_set wr g j v) (fun k hk _ => by injection hk with hk; subst hk; have := h.ls; omega), h.blk.far (by simp only; omega) v⟩
theorem PS.drew (h : PS lo hi w wr S o p) : PS lo hi w wr.drew S o p := ⟨⟨h.gap.os, h.gap.tape, h.gap.output, h.gap.size, h.gap.block⟩, h.blk, h.ls, h.d, h.ps, h.xs, h.ks, h.far⟩
theorem PS.stepD (h : PS lo hi w wr S o p) {g : Nat} (hg : p.Ad = some ⟨g, 0, none⟩) (j : Nat) (z : Int) : PS lo hi w (wr.setCell ⟨g, j, none⟩ (.int .u8 z)) S o p := by
  obtain ⟨xd, od, hd⟩ := h.d
  obtain ⟨xp, op, hp⟩ := h.ps
  obtain ⟨xi, oi⟩ := h.xs
  obtain ⟨xk, ok, hk⟩ := h.ks
  have hb : blockOf p.Ad = some g := by rw [hg]; rfl
  obtain ⟨g1, g2⟩ := h.gapS (v := .int .u8 z) (j := j) (.inl rfl) hb
  have k1 := od.unlike op (by decide)
  have k2 := od.unlike oi (by decide)
  have k3 := od.unlike ok (by decide)
  have gs := grown_set wr g j (.int .u8 z)
  refine ⟨g1, g2, h.ls, ⟨_, ?_, hd.put j z⟩, ⟨_, op.kept gs fun k hk he => k1 k (by rw [hb]; exact he) hk, hp⟩, ⟨_, oi.kept gs fun k hk he => k2 k (by rw [hb]; exact he) hk⟩, ⟨_, ok.kept gs fun k hk he => k3 k (by rw [hb]; exact he) hk, hk⟩, h.far⟩
  rw [hg] at od ⊢
  exact od.set j _
theorem PS.stepP (h : PS lo hi w wr S o p) {g : Nat} (hg : p.Ap = some ⟨g, 0, none⟩) (j : Nat) (z : Int) : PS lo hi w (wr.setCell ⟨g, j, none⟩ (.int .u64 z)) S o p := by
  obtain ⟨xd, od, hd⟩ := h.d
  obtain ⟨xp, op, hp⟩ := h.ps
  obtain ⟨xi, oi⟩ := h.xs
  obtain ⟨xk, ok, hk⟩ := h.ks
  have hb : blockOf p.Ap = some g := by rw [hg]; rfl
  obtain ⟨g1, g2⟩ := h.gapS (v := .int .u64 z) (j := j) (.inr (.inl rfl)) hb
  have k1 := op.unlike od (by decide)
  have k2 := op.unlike oi (by decide)
  have k3 := op.unlike ok (by decide)
  have gs := grown_set wr g j (.int .u64 z)
  refine ⟨g1, g2, h.ls, ⟨_, od.kept gs fun k hk he => k1 k (by rw [hb]; exact he) hk, hd⟩, ⟨_, ?_, hp.put j z⟩, ⟨_, oi.kept gs fun k hk he => k2 k (by rw [hb]; exact he) hk⟩, ⟨_, ok.kept gs fun k hk he => k3 k (by rw [hb]; exact he) hk, hk⟩, h.far⟩
  rw [hg] at op ⊢
  exact op.set j _
theorem PS.stepI (h : PS lo hi w wr S o p) {g : Nat} (hg : p.Ai = some ⟨g, 0, none⟩) (j : Nat) (v : Value) : PS lo hi w (wr.setCell ⟨g, j, none⟩ v) S o p := by
  obtain ⟨xd, od, hd⟩ := h.d
  obtain ⟨xp, op, hp⟩ := h.ps
  obtain ⟨xi, oi⟩ := h.xs
  obtain ⟨xk, ok, hk⟩ := h.ks
  have hb : blockOf p.Ai = some g := by rw [hg]; rfl
  obtain ⟨g1, g2⟩ := h.gapS (v := v) (j := j) (.inr (.inr (.inl rfl))) hb
  have k1 := oi.unlike od (by decide)
  have k2 := oi.unlike op (by decide)
  have k3 := oi.unlike ok (by decide)
  have gs := grown_set wr g j v
  refine ⟨g1, g2, h.ls, ⟨_, od.kept gs fun k hk he => k1 k (by rw [hb]; exact he) hk, hd⟩, ⟨_, op.kept gs fun k hk he => k2 k (by rw [hb]; exact he) hk, hp⟩, ⟨xi.set j v, ?_⟩, ⟨_, ok.kept gs fun k hk he => k3 k (by rw [hb]; exact he) hk, hk⟩, h.far⟩
  rw [hg] at oi ⊢
  exact oi.set j _
theorem PS.stepK (h : PS lo hi w wr S o p) {g : Nat} (hg : p.Ak = some ⟨g, 0, none⟩) (j : Nat) (z : Int) : PS lo hi w (wr.setCell ⟨g, j, none⟩ (.int .u8 z)) S o p := by
  obtain ⟨xd, od, hd⟩ := h.d
  obtain ⟨xp, op, hp⟩ := h.ps
  obtain ⟨xi, oi⟩ := h.xs
  obtain ⟨xk, ok, hk⟩ := h.ks
  have hb : blockOf p.Ak = some g := by rw [hg]; rfl
  obtain ⟨g1, g2⟩ := h.gapS (v := .int .u8 z) (j := j) (.inr (.inr (.inr rfl))) hb
  have k1 := ok.unlike od (by decide)
  have k2 := ok.unlike op (by decide)
  have k3 := ok.unlike oi (by decide)
  have gs := grown_set wr g j (.int .u8 z)
  refine ⟨g1, g2, h.ls, ⟨_, od.kept gs fun k hk he => k1 k (by rw [hb]; exact he) hk, hd⟩, ⟨_, op.kept gs fun k hk he => k2 k (by rw [hb]; exact he) hk, hp⟩, ⟨_, oi.kept gs fun k hk he => k3 k (by rw [hb]; exact he) hk⟩, ⟨_, ?_, hk.put j z⟩, h.far⟩
  rw [hg] at ok ⊢
  exact ok.set j _
end
theorem encL_len (o : ObjT) : (encL o).length ≤ 8192 := by
  unfold encL
  split
  · rename_i h
    exact encE_len h
  · simp
theorem encL_lt {o : ObjT} (hg : Good o) (hd : ∀ x ∈ o.data, x < 256) (hk : o.kind < 256) : ∀ x ∈ encL o, x < 256 := by
  unfold encL
  split
  · exact layL_lt hg hd hk
  · simp
theorem enc_l (w : World) (o : ObjT) (p : Lay) (hm : EncIn w o p) {E n : Nat} {l : List Nat} (hE : encE o = E) (hl : encL o = l) (hn : l.length = n) :
    Calls Tryd.prog 12 #[.agg (ocells o p).toArray] w fun e w' => (∃ A c, e = .returned (.tuple #[.slice A n c, .int .i64 (E : Int)]) ∧ Own w' w.heap.size 5 1 A n c (u8s l)) ∧ Below w.heap.size w w' := by
  subst hE hl hn
  exact encode_any w o p hm
theorem renc_l (w : World) (o : ObjT) (p : Lay) (hm : EncIn w o p) {E n : Nat} {l : List Nat} (hE : encE o = E) (hl : encL o = l) (hn : l.length = n) :
    Calls Tryd.prog 22 #[.agg (ocells o p).toArray] w fun e w' => (∃ A c, e = .returned (.tuple #[.slice A n c, .int .i64 (E : Int)]) ∧ Own w' w.heap.size 5 1 A n c (u8s l)) ∧ Below w.heap.size w w' := by
  subst hE hl hn
  exact rencode_any w o p hm
end Go.Proofs.YtkjndgapejbgcaaDoor

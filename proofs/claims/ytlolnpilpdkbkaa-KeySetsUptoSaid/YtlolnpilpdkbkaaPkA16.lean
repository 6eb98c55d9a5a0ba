/- KeyAlgebra: the walk. Parse. Parse of what is no key's text. The document's Compare, From; From. The document's Hex, value, Parse. -/
import Derived.Test.YtlolnpilpdkbkaaPkA15
import Derived.Deep.Cut
import Derived.Deep.CutRange
import Derived.Test.YtlolnpilpdkbkaaPkA4
import Derived.Test.YtlolnpilpdkbkaaPkA11
import Derived.Laws.ResultCell
import Derived.BigQuiet
import Derived.Laws.Concat
import Derived.Laws.BitsAllLaws

namespace Go.Proofs.Ytlolnpilpdkbkaa
open Go.RowKit Go.Maps
set_option linter.unusedSimpArgs false
set_option linter.unusedVariables false

theorem SetK.below {W W' : World} {s m n : Nat} {ks : List (List Nat)} (h : SetK W s m n ks) (hb : Below W.heap.size W W') : SetK W' s m n ks :=
  h.keep (hb.block _ h.lts.1) (hb.block _ h.lts.2)
theorem rangeAt_below {W W' : World} {b off : Nat} {cs : List Value} (hb : Below W.heap.size W W') (hl : b < W.heap.size) (h : W.rangeAt b off cs) : W'.rangeAt b off cs := fun i v hv => (hb.cell (p := ⟨b, off + i, none⟩) hl).trans (h i v hv)
theorem KeyRow.below {W W' : World} {A : Option Addr} {xs : List (List Nat)} (h : KeyRow W A xs) (hb : Below W.heap.size W W') : KeyRow W' A xs := fun k x hk => by
  obtain ⟨h1, b, off, h2, h3, h4⟩ := h k x hk
  exact ⟨h1, b, off, h2, Nat.lt_of_lt_of_le h3 hb.size, rangeAt_below hb h3 h4⟩
/-- What stands behind the sets have been made. -/
structure AlgW (w : World) (Aa : Option Addr) (xs : List (List Nat)) (Ab : Option Addr) (ys : List (List Nat)) (s t u v m : Nat) (KA KB U V M : List (List Nat)) (W : World) : Prop where
  bel : Below w.heap.size w W
  ra : KeyRow W Aa xs
  rb : KeyRow W Ab ys
  hs : ∃ a b, SetK W s a b KA
  ht : ∃ a b, SetK W t a b KB
  hu : ∃ a b, SetK W u a b U
  hv : ∃ a b, SetK W v a b V
  hm : ∃ a b, SetK W m a b M
section
variable {w W W' : World} {Aa Ab : Option Addr} {xs ys KA KB U V M : List (List Nat)} {s t u v m : Nat}
theorem AlgW.keep (h : AlgW w Aa xs Ab ys s t u v m KA KB U V M W) (hb : Below W.heap.size W W') : AlgW w Aa xs Ab ys s t u v m KA KB U V M W' := by
  obtain ⟨h1, h2, h3, ⟨a1, b1, s1⟩, ⟨a2, b2, s2⟩, ⟨a3, b3, s3⟩, ⟨a4, b4, s4⟩, ⟨a5, b5, s5⟩⟩ := h
  exact ⟨h1.trans (hb.mono h1.size), h2.below hb, h3.below hb, ⟨a1, b1, s1.below hb⟩, ⟨a2, b2, s2.below hb⟩, ⟨a3, b3, s3.below hb⟩, ⟨a4, b4, s4.below hb⟩, ⟨a5, b5, s5.below hb⟩⟩
theorem AlgW.lens (h : AlgW w Aa xs Ab ys s t u v m KA KB U V M W) :
    (Calls Try.prog 14 #[.pointer (some ⟨s, 0, none⟩)] W fun e w' => e = .returned (.int .i64 (KA.length : Int)) ∧ w' = W) ∧
    (Calls Try.prog 14 #[.pointer (some ⟨t, 0, none⟩)] W fun e w' => e = .returned (.int .i64 (KB.length : Int)) ∧ w' = W) ∧
    (Calls Try.prog 14 #[.pointer (some ⟨u, 0, none⟩)] W fun e w' => e = .returned (.int .i64 (U.length : Int)) ∧ w' = W) ∧
    (Calls Try.prog 14 #[.pointer (some ⟨v, 0, none⟩)] W fun e w' => e = .returned (.int .i64 (V.length : Int)) ∧ w' = W) ∧
    (Calls Try.prog 14 #[.pointer (some ⟨m, 0, none⟩)] W fun e w' => e = .returned (.int .i64 (M.length : Int)) ∧ w' = W) := by
  obtain ⟨_, _, _, ⟨a1, b1, s1⟩, ⟨a2, b2, s2⟩, ⟨a3, b3, s3⟩, ⟨a4, b4, s4⟩, ⟨a5, b5, s5⟩⟩ := h
  exact ⟨lenK_any _ _ _ _ _ s1, lenK_any _ _ _ _ _ s2, lenK_any _ _ _ _ _ s3, lenK_any _ _ _ _ _ s4, lenK_any _ _ _ _ _ s5⟩
/-- What the sets tell of a key. -/
theorem AlgW.has (h : AlgW w Aa xs Ab ys s t u v m KA KB U V M W) (x : List Nat) (hx : IsK x) (hb : Below W.heap.size W W') :
    (Calls Try.prog 16 #[.pointer (some ⟨s, 0, none⟩), .agg (u8s x).toArray] W' fun e w' => e = .returned (.bool (decide (x ∈ KA))) ∧ Below W'.heap.size W' w') ∧
    (Calls Try.prog 16 #[.pointer (some ⟨t, 0, none⟩), .agg (u8s x).toArray] W' fun e w' => e = .returned (.bool (decide (x ∈ KB))) ∧ Below W'.heap.size W' w') ∧
    (Calls Try.prog 16 #[.pointer (some ⟨u, 0, none⟩), .agg (u8s x).toArray] W' fun e w' => e = .returned (.bool (decide (x ∈ U))) ∧ Below W'.heap.size W' w') ∧
    (Calls Try.prog 16 #[.pointer (some ⟨v, 0, none⟩), .agg (u8s x).toArray] W' fun e w' => e = .returned (.bool (decide (x ∈ V))) ∧ Below W'.heap.size W' w') ∧
    (Calls Try.prog 16 #[.pointer (some ⟨m, 0, none⟩), .agg (u8s x).toArray] W' fun e w' => e = .returned (.bool (decide (x ∈ M))) ∧ Below W'.heap.size W' w') := by
  obtain ⟨_, _, _, ⟨a1, b1, s1⟩, ⟨a2, b2, s2⟩, ⟨a3, b3, s3⟩, ⟨a4, b4, s4⟩, ⟨a5, b5, s5⟩⟩ := h.keep hb
  exact ⟨hasK_any _ _ _ _ _ s1 x hx, hasK_any _ _ _ _ _ s2 x hx, hasK_any _ _ _ _ _ s3 x hx, hasK_any _ _ _ _ _ s4 x hx, hasK_any _ _ _ _ _ s5 x hx⟩
end
/-- In the third loop: the cell of 'at'. -/
def AtS (w6 : World) (g13 : Nat) (x : List Nat) (W : World) : Prop := Below w6.heap.size w6 W ∧ W.heap[g13]? = some (.cells (u8s x).toArray 25 (0, 0))
theorem AtS.keep {w6 W W' : World} {g13 : Nat} {x : List Nat} (h : AtS w6 g13 x W) (hb : Below W.heap.size W W') : AtS w6 g13 x W' :=
  ⟨h.1.trans (hb.mono h.1.size), (hb.block _ (Array.getElem?_eq_some_iff.1 h.2).1).trans h.2⟩
theorem yieldsIf_binA {P : Program} {ops : Array Oper} {S : World → Prop} {op : Oper} {a : Act} (hw : Region.wanted op (yielded ops a.tmps) = true) (bo : BinOp) (t t2 : TypeId) (x y : Operand) (ho : op.op = .binOp bo t x y t2) (u1 u2 : Value) (hx : a.eval x = u1) (hy : a.eval y = u2) (v : Value)
    (hg : ∀ w, (eqGuard bo t x y u1 u2).run P w = .ok () w) (hr : ∀ w, S w → (binOp bo t u1 u2).run P w = .ok v w) : YieldsIf P ops S op v a :=
  .inl ⟨hw, fun w hw' => by unfold execOp; simp [ho, hx, hy, hg w, hr w hw']⟩
section
variable {P : Program} {ops : Array Oper} {rest : List Oper} {o : Oper} {a : Act} {w : World} {Q : Exit → Act → World → Prop}
/-- A guarded load of a range of cells. -/
theorem wpList_load_mid_gA (hw : Region.wanted o (yielded ops a.tmps) = true) (ty : TypeId) (x : Operand) (ho : o.op = .load ty x)
    (b k : Nat) (hx : a.eval x = .pointer (some ⟨b, k, none⟩)) (cs : List Value) (d : TypeDesc) (hc : w.rangeAt b k cs)
    (hu : P.underlying ty = some d) (hd : d.isRow = true) (hi : (P.info? ty).map (·.size) = some cs.length)
    (h : wpList P ops Q rest (a.put o.dst (.agg cs.toArray)) w) : wpList P ops Q (o :: rest) a w :=
  wpList_step fun K hK => by
    rw [if_pos hw]
    exact wp_load_mid ty x ho b k hx cs d hc hu hd hi (hK _ _ h)
end
/-- 'tk', the list written out: no rewriting of the frame in the proof. -/
theorem tkL {P : Program} {md : Region.Mode} {ops : Array Oper} {Q : Exit → Act → World → Prop} {S : World → Prop} {i d : Nat} {oi : Oper} {v : Value} {fuel : Nat} {listed : Array Bool} {t : List Value} {df : List Deferred} {w : World} (hi : ops[i]? = some oi) (hd : oi.dst = some d)
    (hy : YieldsIf P ops S oi v ⟨t.toArray, df⟩) (hS : S w) (h : wpAnyH P md ops Q S fuel (listed.setIfInBounds i true) ⟨(t.set d v).toArray, df⟩ w)
    (hs : Region.noSelect ops = true := by kernel_rfl) (hf : Region.free md ops listed i = true := by kernel_rfl) (hr : (Region.ready md ops listed).contains i = true := by kernel_rfl)
    (hQ : ∀ c a w, Q (.panic c) (a.put oi.dst v) w → Q (.panic c) a w := by exact fun _ _ _ h => h) : wpAnyH P md ops Q S (fuel + 1) listed ⟨t.toArray, df⟩ w := by
  refine tk hi hd hy hS ?_ hs hf hr hQ
  rw [show t.toArray.setIfInBounds d v = (t.set d v).toArray by simp]
  exact h
end Go.Proofs.Ytlolnpilpdkbkaa

namespace Go.Proofs.Ytlolnpilpdkbkaa
open Go.RowKit
set_option linter.unusedSimpArgs false

def good (s : List UInt8) : Bool := decide (s.length = 64) && allDig s
def parseR (s : List UInt8) : List Nat := if good s then parsedL s else zeros 32
def parseE (s : List UInt8) : Nat := if good s then 0 else 30

theorem results_row_tmp {P : Program} {fn : Func} {p u : Tmp} {ty : TypeId} (h : fn.results = #[.cell p ty, .tmp u]) (tmps : Array Value) (w : World) (g : Nat) (t : TypeId) (cs : Array Value) (fr : Nat × Nat) (d : TypeDesc) (x : Value)
    (hp : tmps.getD p undef = .pointer (some ⟨g, 0, none⟩)) (hx : tmps.getD u undef = x) (hg : w.heap[g]? = some (.cells cs t fr))
    (hu : P.underlying ty = some d) (hd : (match d with | .struct _ | .array _ _ => true | _ => false) = true) (hi : (P.info? ty).map (·.size) = some cs.size) :
    (results fn tmps).run P w = .ok (.tuple #[.agg cs, x]) w := by
  rw [results_cell_tmp h, hp, hx]
  simp [asAddr, run_loadVar_row w g t ty cs fr d hg hu hd hi]
theorem index_str {s : ByteArray} {k : Nat} {c : UInt8} (h : k < s.size) (hc : s[k] = c) (w : World) : (Instr.index 9 (.string s) (.int .i64 (k : Int))).run Try.prog w = .ok (.int .u8 (c.toNat : Int)) w := by
  have h1 : (0 : Int) ≤ (k : Int) := by omega
  have h2 : s[k]? = some c := by rw [getElem?_pos s k h, hc]
  simp [Instr.index, run_underlying Try.underlying9, asIntOf, h2]

theorem or16 : ∀ n1 : Nat, n1 < 16 → ∀ n2 : Nat, n2 < 16 → bits .or .i64 ((n1 : Int) * 16) (n2 : Int) = ((n1 * 16 + n2 : Nat) : Int) := by decide

/-- What stands while the bytes are laid. -/
structure PX (w wr : World) (s : List UInt8) (k : Nat) : Prop where
  bel : Below w.heap.size w wr
  res : BlkY wr w.heap.size (zeros 32)
  ky : BlkY wr (w.heap.size + 1) ((parsedL s).take k ++ zeros (32 - k))

theorem PX.put {w wr : World} {s : List UInt8} {k y : Nat} (h : PX w wr s k) (hk : k < 32) (hl : (parsedL s).length = 32) (hy : (parsedL s)[k]?.getD 0 = y) : PX w (wr.setCell ⟨w.heap.size + 1, k, none⟩ (.int .u8 (y : Int))).drew s (k + 1) where
  bel := (h.bel.setCell (p := ⟨w.heap.size + 1, k, none⟩) (by simp) _).drew
  res := h.res.far (p := ⟨w.heap.size + 1, k, none⟩) (by simp) _
  ky := by
    have := h.ky.set k y
    have e : ((parsedL s).take k ++ zeros (32 - k)).set k y = (parsedL s).take (k + 1) ++ zeros (32 - (k + 1)) := by
      rw [List.set_append_right _ _ (by simp; omega), List.length_take, hl, Nat.min_eq_left (by omega), Nat.sub_self, List.take_succ_eq_append_getElem (by omega), List.append_assoc]
      congr 1
      rw [List.getElem?_eq_getElem (by omega), Option.getD_some] at hy
      rw [show 32 - k = (32 - (k + 1)) + 1 by omega, zeros, List.replicate_succ, List.set_cons_zero, hy]
      rfl
    rw [e] at this
    exact this
set_option maxRecDepth 100000 in
set_option maxHeartbeats 1000000 in
theorem parse_good (s : ByteArray) (w : World) (hs : s.size = 64) (hd : allDig s.data.toList = true) :
    Calls Try.prog 8 #[.string s] w fun e w' => e = .returned (.tuple #[.agg (u8s (parsedL s.data.toList)).toArray, .int .i64 0]) ∧ Below w.heap.size w w' := by
  have hz := zeroKy
  have hi32 : (Try.prog.info? 25).map (·.size) = some 32 := by kernel_rfl
  have hi32' := Lib.hid hi32
  have hB : Below w.heap.size w ((w.alloc (.cells (u8s (zeros 32)).toArray 25)).alloc (.cells (u8s (zeros 32)).toArray 25)) := ((Below.refl _ _).alloc (Nat.le_refl _) _).alloc (by simp) _
  have h0' := Lib.hid (PX.mk (s := s.data.toList) (k := 0) hB (heap_alloc2_old w _ _) (heap_alloc2_new w _ _))
  have hd' : Hid (∀ k, (h : k < s.size) → 0 ≤ val s[k]) := Lib.hid fun k h => by
    unfold allDig at hd
    rw [List.all_eq_true] at hd
    simpa using hd s[k] (List.mem_of_getElem? (at_get h))
  have hd2 := Lib.hid hd
  have hA : Calls Try.prog 29 #[.string s] (w.alloc (.cells (u8s (zeros 32)).toArray 25)) fun e w' => e = .returned (.bool true) ∧ w' = (w.alloc (.cells (u8s (zeros 32)).toArray 25)) := by
    have := areDigits_any s (w.alloc (.cells (u8s (zeros 32)).toArray 25)) (by omega)
    rwa [hd] at this
  have hA' := Lib.hid hA
  have hpl := Lib.hid (parsedL_length 32 s.data.toList (by rw [← Lib.size_eq, hs]))
  have hpg := Lib.hid (parsedL_get 32 s.data.toList (by rw [← Lib.size_eq, hs]))
  clear hi32 hB hd hA
  go_enter Try.func8, Try.ntmps8
  go_wp2_with (first | (go_at_call 29; refine hA'.out.mono ?_; rintro e w1 ⟨rfl, rfl⟩))
  generalize ((w.alloc (.cells (u8s (zeros 32)).toArray 25)).alloc (.cells (u8s (zeros 32)).toArray 25)) = w2 at h0' ⊢
  go_loopw [15] (fun i wr => ∃ k : Nat, k ≤ 32 ∧ i = .int .i64 k ∧ Hid (PX w wr s.data.toList k)) (fun i _ => 32 - (intOf i).toNat)
  case atStart => exact ⟨0, by omega, rfl, h0'⟩
  case round =>
    clear h0'
    obtain ⟨k, hk, rfl, hD⟩ := hrel
    by_cases hlt : k < 32
    · have i7 : 2 * k < s.size := by omega
      have i8 : 2 * k + 1 < s.size := by omega
      obtain ⟨c1, hc1⟩ : ∃ c, s[2 * k] = c := ⟨_, rfl⟩
      obtain ⟨c2, hc2⟩ : ∃ c, s[2 * k + 1] = c := ⟨_, rfl⟩
      have hp1 := hd'.out (2 * k) i7
      have hp2 := hd'.out (2 * k + 1) i8
      rw [hc1] at hp1
      rw [hc2] at hp2
      have hix1 := index_str (k := 2 * k) i7 hc1
      have hix2 := index_str (k := 2 * k + 1) i8 hc2
      have hl1 := val_lt _ hp1
      have hl2 := val_lt _ hp2
      obtain ⟨n1, hv1⟩ := Int.eq_ofNat_of_zero_le hp1
      obtain ⟨n2, hv2⟩ := Int.eq_ofNat_of_zero_le hp2
      have hn1 : n1 < 16 := by omega
      have hn2 : n2 < 16 := by omega
      rw [show (((2 * k : Nat) : Int)) = 2 * (k : Int) by omega] at hix1
      rw [show (((2 * k + 1 : Nat) : Int)) = 2 * (k : Int) + 1 by omega] at hix2
      clear hl1 hl2 hp1 hp2
      have hg1 := Lib.hid (at_get i7)
      have hg2 := Lib.hid (at_get i8)
      rw [hc1] at hg1
      rw [hc2] at hg2
      have hs' := Lib.hid hs
      clear hc1 hc2 i7 i8 hs
      have hw1 : IntKind.i64.wrap (2 * (k : Int)) = 2 * (k : Int) := by rw [IntKind.wrap_i64]; omega
      have hw2 : IntKind.i64.wrap (2 * (k : Int) + 1) = 2 * (k : Int) + 1 := by rw [IntKind.wrap_i64]; omega
      have hle : k < ((parsedL s.data.toList).take k ++ zeros (32 - k)).length := by rw [List.length_append, List.length_take, hpl.out]; simp [zeros]; omega
      have q1 := hD.out.ky.cell (k := k) hle
      have qf := hD.out.ky.frozen k
      have k0 : (0 : Int) ≤ (k : Int) := by omega
      have hw3 : IntKind.i64.wrap ((n1 : Int) * 16) = (n1 : Int) * 16 := by rw [IntKind.wrap_i64]; omega
      have hor := or16 n1 hn1 n2 hn2
      have hun : (parsedL s.data.toList)[k]?.getD 0 = n1 * 16 + n2 := by
        rw [hpg.out k hlt, hg1.out, hg2.out]
        simp only [Option.getD_some, unhex, hv1, hv2, Int.toNat_natCast]
      obtain ⟨y, hy⟩ : ∃ y, n1 * 16 + n2 = y := ⟨_, rfl⟩
      rw [hy] at hor hun
      have hwy : IntKind.u8.wrap (y : Int) = (y : Int) := by rw [IntKind.wrap_u8]; omega
      have hD2 := Lib.hid (hD.out.put hlt hpl.out hun)
      clear hle hy hun hD hn1 hn2
      go_wp2_with fail
      go_region_with (go_at_call 30; refine (fd_any _ _).mono ?_; rintro e w1 ⟨rfl, rfl⟩)
      all_goals
        go_wp2_with fail
        go_roundw
        case rel => exact ⟨k + 1, by omega, by go_num, hD2⟩
        case measure => simp [intOf]; omega
    · rw [show k = 32 by omega] at hD
      have hD2 := hD.out
      have hk0' := Lib.hid hD2.res
      have hk1 := hD2.ky
      have hpl2 := hpl.out
      rw [List.take_of_length_le (by omega), show zeros (32 - 32) = [] from rfl, List.append_nil] at hk1
      obtain ⟨F, hF⟩ : ∃ F, Hid (∀ _ : Unit, parsedL s.data.toList = F) := ⟨_, Lib.hid fun _ => rfl⟩
      rw [hF.out ()] at hk1 hpl2
      have hk1' := Lib.hid hk1
      have hB2 := Lib.hid hD2.bel
      have hs32 : (u8s F).toArray.size = 32 := by simp [u8s, hpl2]
      have hz32 : (u8s (zeros 32)).toArray.size = 32 := by simp [u8s, zeros]
      have hone : (u8s F).toArray.all (·.oneCell') = true := all_oneCell_toArray u8s_one
      clear hk1 hD2 hD hpl2
      go_wp2_with (first
        | (refine wpList_load_row rfl 25 _ rfl (w.heap.size + 1) rfl 25 (u8s F).toArray (0, 0) _ hk1'.out Try.underlying25 rfl (by rw [hs32]; exact hi32'.out) ?_)
        | (refine wpList_store_row rfl 25 _ _ rfl w.heap.size (u8s F).toArray rfl rfl 25 _ hk0'.out (by rw [hs32]; exact hi32'.out) (by rw [hs32, hz32]) hone ?_))
      have hset := setRow_heap wr w.heap.size _ (u8s F).toArray 25 _ hk0'.out
      refine bodyPost_ret (results_row_tmp rfl _ _ w.heap.size 25 (u8s F).toArray (0, 0) _ _ rfl rfl hset Try.underlying25 rfl (by rw [hs32]; exact hi32'.out)) rfl ⟨?_, setRow_below hB2.out (Nat.le_refl _) _⟩
      rw [hF.out ()]
      rfl
end Go.Proofs.Ytlolnpilpdkbkaa

namespace Go.Proofs.Ytlolnpilpdkbkaa
open Go.RowKit
set_option linter.unusedSimpArgs false

theorem zeroKb (w : World) : (Instr.build 25 #[]).run Try.prog w = .ok (.agg (u8s (zeros 32)).toArray) w :=
  run_build w _ _ _ (by kernel_rfl)

set_option maxRecDepth 100000 in
set_option maxHeartbeats 1000000 in
theorem parse_bad (s : ByteArray) (w : World) (hm : s.size ≤ 9223372036854775807) (hg : good s.data.toList = false) :
    Calls Try.prog 8 #[.string s] w fun e w' => e = .returned (.tuple #[.agg (u8s (zeros 32)).toArray, .int .i64 30]) ∧ Below w.heap.size w w' := by
  have hz := zeroKy
  have hbl := zeroKb
  have hi32 : (Try.prog.info? 25).map (·.size) = some 32 := by kernel_rfl
  have hi32' := Lib.hid hi32
  have h0' := Lib.hid (heap_alloc_new w (.cells (u8s (zeros 32)).toArray 25))
  have hB' := Lib.hid ((Below.refl w.heap.size w).alloc (Nat.le_refl _) (.cells (u8s (zeros 32)).toArray 25))
  have hA' : s.size = 64 → Calls Try.prog 29 #[.string s] (w.alloc (.cells (u8s (zeros 32)).toArray 25)) fun e w' => e = .returned (.bool false) ∧ w' = (w.alloc (.cells (u8s (zeros 32)).toArray 25)) := fun h => by
    have := areDigits_any s (w.alloc (.cells (u8s (zeros 32)).toArray 25)) hm
    unfold good at hg
    rw [← Lib.size_eq, h] at hg
    simp only [decide_true, Bool.true_and] at hg
    rwa [hg] at this
  have hs32 : (u8s (zeros 32)).toArray.size = 32 := by simp [u8s, zeros]
  have hone : (u8s (zeros 32)).toArray.all (·.oneCell') = true := all_oneCell_toArray u8s_one
  have hA2 := Lib.hid hA'
  have hset := setRow_heap (w.alloc (.cells (u8s (zeros 32)).toArray 25)) w.heap.size _ (u8s (zeros 32)).toArray 25 _ h0'.out
  have hset' := Lib.hid hset
  clear hi32 hA' hg hset
  by_cases hs : s.size = 64
  · have hA3 := Lib.hid (hA2.out hs)
    clear hA2
    go_enter Try.func8, Try.ntmps8
    go_wp2_with (first
      | (go_at_call 29; refine hA3.out.mono ?_; rintro e w1 ⟨rfl, rfl⟩)
      | (refine wpList_store_row rfl 25 _ _ rfl w.heap.size (u8s (zeros 32)).toArray rfl rfl 25 _ h0'.out (by rw [hs32]; exact hi32'.out) (by rw [hs32]) hone ?_))
    refine bodyPost_ret (results_row_tmp rfl _ _ w.heap.size 25 (u8s (zeros 32)).toArray (0, 0) _ _ rfl rfl hset'.out Try.underlying25 rfl (by rw [hs32]; exact hi32'.out)) rfl ⟨rfl, setRow_below hB'.out (Nat.le_refl _) _⟩
  · have hne : ((s.size : Int) != 64) = true := by simp; omega
    clear hA2
    go_enter Try.func8, Try.ntmps8
    go_wp2_with (first
      | (refine wpList_store_row rfl 25 _ _ rfl w.heap.size (u8s (zeros 32)).toArray rfl rfl 25 _ h0'.out (by rw [hs32]; exact hi32'.out) (by rw [hs32]) hone ?_))
    refine bodyPost_ret (results_row_tmp rfl _ _ w.heap.size 25 (u8s (zeros 32)).toArray (0, 0) _ _ rfl rfl hset'.out Try.underlying25 rfl (by rw [hs32]; exact hi32'.out)) rfl ⟨rfl, setRow_below hB'.out (Nat.le_refl _) _⟩
end Go.Proofs.Ytlolnpilpdkbkaa

namespace Go.Proofs.Ytlolnpilpdkbkaa
open Go.RowKit
set_option linter.unusedSimpArgs false
set_option linter.unusedVariables false

theorem cmp_drop {a b : List Nat} {i x y : Nat} (ha : a[i]? = some x) (hb : b[i]? = some y) (hx : x < 256) (hy : y < 256) :
    Lib.compareBytes (b8 (a.drop i)) (b8 (b.drop i)) = if x < y then -1 else if y < x then 1 else Lib.compareBytes (b8 (a.drop (i + 1))) (b8 (b.drop (i + 1))) := by
  obtain ⟨h1, e1⟩ := List.getElem?_eq_some_iff.1 ha
  obtain ⟨h2, e2⟩ := List.getElem?_eq_some_iff.1 hb
  rw [List.drop_eq_getElem_cons h1, List.drop_eq_getElem_cons h2, e1, e2]
  simp only [b8, List.map_cons, Lib.compareBytes]
  simp only [b8_lt hx hy, b8_lt hy hx]
set_option maxRecDepth 100000 in
set_option maxHeartbeats 1000000 in
theorem refCompare_any (w : World) (a b : List Nat) (hal : a.length = 32) (hbl : b.length = 32) (ha : ∀ x ∈ a, x < 256) (hb : ∀ x ∈ b, x < 256) :
    Calls Try.prog 58 #[.agg (u8s a).toArray, .agg (u8s b).toArray] w fun e w' => e = .returned (.int .i64 (Lib.compareBytes (b8 a) (b8 b))) ∧ Below w.heap.size w w' := by
  obtain ⟨g, hg⟩ : ∃ g, w.heap.size = g := ⟨_, rfl⟩
  obtain ⟨ka, hka⟩ : ∃ ka, (u8s a).toArray = ka := ⟨_, rfl⟩
  obtain ⟨kb, hkb⟩ : ∃ kb, (u8s b).toArray = kb := ⟨_, rfl⟩
  obtain ⟨w1, hw1⟩ : ∃ w1, w.alloc (.cells ka 25) = w1 := ⟨_, rfl⟩
  obtain ⟨w2, hw2⟩ : ∃ w2, w1.alloc (.cells kb 25) = w2 := ⟨_, rfl⟩
  have hs1 : w1.heap.size = g + 1 := by rw [← hw1, ← hg]; simp
  have k1 : Hid (BlkY w2 g a) := Lib.hid (by
    have h1 : BlkY w1 g a := by rw [← hw1, ← hka, ← hg]; exact BlkY.new w a
    rw [← hw2]
    exact h1.alloc _)
  have k2 : Hid (BlkY w2 (g + 1) b) := Lib.hid (by rw [← hw2, ← hkb, ← hs1]; exact BlkY.new w1 b)
  have hB : Hid (Below w.heap.size w w2) := Lib.hid (by rw [← hw2, ← hw1]; exact ((Below.refl _ _).alloc (Nat.le_refl _) _).alloc (by simp) _)
  obtain ⟨T, hT⟩ : ∃ T, Hid (∀ _ : Unit, Lib.compareBytes (b8 a) (b8 b) = T) := ⟨_, Lib.hid fun _ => rfl⟩
  rw [hT.out (), hka, hkb]
  have ha' := Lib.hid ha
  have hb' := Lib.hid hb
  have hal' := Lib.hid hal
  have hbl' := Lib.hid hbl
  clear ha hb hal hbl hka hkb
  go_enter Try.func58, Try.ntmps58
  go_wp2_with fail
  clear hw1 hw2
  go_loopw [5] (fun iv wr => ∃ i m : Nat, i ≤ 32 ∧ iv = .int .i64 (i : Int) ∧ Hid (∀ _ : Unit, Lib.compareBytes (b8 (a.drop i)) (b8 (b.drop i)) = T) ∧ wr = w2.drewN m) (fun iv _ => 32 - (intOf iv).toNat)
  case atStart => exact ⟨0, 0, by omega, rfl, Lib.hid fun _ => hT.out (), rfl⟩
  case round =>
    obtain ⟨i, m, hi, rfl, hTi, hwr⟩ := hrel
    have hwr' := Lib.hid hwr
    have j1 : Hid (BlkY wr g a) := Lib.hid (by rw [hwr]; exact k1.out)
    have j2 : Hid (BlkY wr (g + 1) b) := Lib.hid (by rw [hwr]; exact k2.out)
    have hBr : Hid (Below w.heap.size w wr) := Lib.hid (by rw [hwr]; exact below_drewN hB.out m)
    clear hwr
    by_cases hlt : i < 32
    · obtain ⟨x, hx⟩ : ∃ x, Hid (a[i]? = some x) := ⟨_, Lib.hid (List.getElem?_eq_getElem (by rw [hal'.out]; exact hlt))⟩
      obtain ⟨y, hy⟩ : ∃ y, Hid (b[i]? = some y) := ⟨_, Lib.hid (List.getElem?_eq_getElem (by rw [hbl'.out]; exact hlt))⟩
      have cx := j1.out.cell (k := i) (by rw [hal'.out]; exact hlt)
      rw [hx.out, Option.getD_some] at cx
      have cy := j2.out.cell (k := i) (by rw [hbl'.out]; exact hlt)
      rw [hy.out, Option.getD_some] at cy
      have hd := Lib.hid (cmp_drop hx.out hy.out (ha'.out x (List.mem_of_getElem? hx.out)) (hb'.out y (List.mem_of_getElem? hy.out)))
      by_cases hxy : x < y
      · have hTv : Hid (T = -1) := Lib.hid (by rw [← hTi.out (), hd.out, if_pos hxy])
        have q1 : decide ((x : Int) < (y : Int)) = true := by simp; omega
        go_wp2_with fail
        go_quiet (fail)
        go_wp2_with fail
        go_ret
        exact ⟨ret_int (by first | rw [hTv.out] | rw [hTv]), below_drewN hBr.out _⟩
      · have q1 : decide ((x : Int) < (y : Int)) = false := by simp; omega
        by_cases hyx : y < x
        · have hTv : Hid (T = 1) := Lib.hid (by rw [← hTi.out (), hd.out, if_neg hxy, if_pos hyx])
          have q2 : decide ((y : Int) < (x : Int)) = true := by simp; omega
          go_wp2_with fail
          go_quiet (fail)
          go_wp2_with fail
          go_quiet (fail)
          go_wp2_with fail
          go_ret
          exact ⟨ret_int (by first | rw [hTv.out] | rw [hTv]), below_drewN (below_drewN hBr.out _) _⟩
        · have q2 : decide ((y : Int) < (x : Int)) = false := by simp; omega
          have hTn : Hid (∀ _ : Unit, Lib.compareBytes (b8 (a.drop (i + 1))) (b8 (b.drop (i + 1))) = T) := Lib.hid fun _ => by rw [← hTi.out (), hd.out, if_neg hxy, if_neg hyx]
          go_wp2_with fail
          go_quiet (fail)
          go_wp2_with fail
          go_quiet (fail)
          go_wp2_with fail
          go_roundw
          case rel => exact ⟨i + 1, _, by omega, by go_num, hTn, by rw [hwr'.out, World.drewN_drewN]⟩
          case measure => simp [intOf]; omega
    · have hTv : Hid (T = 0) := Lib.hid (by
        rw [← hTi.out (), List.drop_of_length_le (by rw [hal'.out]; omega), List.drop_of_length_le (by rw [hbl'.out]; omega)]
        rfl)
      go_wp2_with fail
      go_ret
      exact ⟨ret_int (by first | rw [hTv.out] | rw [hTv]), hBr.out⟩
/-- What From tells. -/
def fromR (l : List Nat) : List Nat := if l.length = 32 then l else zeros 32
def fromE (l : List Nat) : Nat := if l.length = 32 then 0 else 2
def FromP (w : World) (l : List Nat) (e : Ending) (w' : World) : Prop := e = .returned (.tuple #[.agg (u8s (fromR l)).toArray, .int .i64 (fromE l : Nat)]) ∧ Below w.heap.size w w'
end Go.Proofs.Ytlolnpilpdkbkaa

namespace Go.Proofs.Ytlolnpilpdkbkaa
open Go.RowKit
set_option linter.unusedSimpArgs false
set_option linter.unusedVariables false

theorem dig_slice (q : Nat) (hq : q < 16) (W : World) : (Instr.sliceAt 9 (.string ⟨#[48, 49, 50, 51, 52, 53, 54, 55, 56, 57, 97, 98, 99, 100, 101, 102]⟩) (some (.int .u8 (q : Int))) (some (.int .u8 ((q : Int) + 1))) none).run Try.prog W = .ok (.string ⟨#[dg q]⟩) W := by
  rcases (show q = 0 ∨ q = 1 ∨ q = 2 ∨ q = 3 ∨ q = 4 ∨ q = 5 ∨ q = 6 ∨ q = 7 ∨ q = 8 ∨ q = 9 ∨ q = 10 ∨ q = 11 ∨ q = 12 ∨ q = 13 ∨ q = 14 ∨ q = 15 by omega) with rfl | rfl | rfl | rfl | rfl | rfl | rfl | rfl | rfl | rfl | rfl | rfl | rfl | rfl | rfl | rfl <;> kernel_rfl
theorem str_snoc (m : List UInt8) (c : UInt8) (hm : m.length ≤ 1000) (W : World) : (binOp .add 9 (.string ⟨m.toArray⟩) (.string ⟨#[c]⟩)).run Try.prog W = .ok (.string ⟨(m ++ [c]).toArray⟩) W := by
  have h : ¬ 9223372036854775807 < m.length + 1 := by omega
  simp [go_sem, h]
  exact ByteArray.mk_append_mk m [c]
theorem str_snoc2 (m : List UInt8) (c : UInt8) (hm : m.length ≤ 1000) (W : World) : (Op.stringOp .add ⟨m.toArray⟩ ⟨#[c]⟩).run Try.prog W = .ok (.string ⟨(m ++ [c]).toArray⟩) W := by
  have h : ¬ 9223372036854775807 < m.length + 1 := by omega
  simp [go_sem, h]
  exact ByteArray.mk_append_mk m [c]
theorem and15 (x : Nat) (hx : x < 256) : bits .and .u8 (x : Int) 15 = ((x % 16 : Nat) : Int) := by
  have := u8_and_nat x 15 hx (by decide)
  rw [show x &&& 15 = x % 16 from Nat.and_two_pow_sub_one_eq_mod x 4] at this
  exact this
set_option maxRecDepth 100000 in
set_option maxHeartbeats 2000000 in
theorem refHex_any (l : List Nat) (w : World) (hl : l.length = 32) (hb : ∀ x ∈ l, x < 256) :
    Calls Try.prog 61 #[.agg (u8s l).toArray] w fun e w' => e = .returned (.string ⟨(hexL l).toArray⟩) ∧ Below w.heap.size w w' := by
  obtain ⟨g, hg⟩ : ∃ g, w.heap.size = g := ⟨_, rfl⟩
  obtain ⟨ka, hka⟩ : ∃ ka, (u8s l).toArray = ka := ⟨_, rfl⟩
  obtain ⟨w1, hw1⟩ : ∃ w1, w.alloc (.cells ka 25) = w1 := ⟨_, rfl⟩
  have k1 : Hid (BlkY w1 g l) := Lib.hid (by rw [← hw1, ← hka, ← hg]; exact BlkY.new w l)
  have hB : Hid (Below w.heap.size w w1) := Lib.hid (by rw [← hw1]; exact (Below.refl _ _).alloc (Nat.le_refl _) _)
  obtain ⟨T, hT⟩ : ∃ T, Hid (∀ _ : Unit, hexL l = T) := ⟨_, Lib.hid fun _ => rfl⟩
  rw [hT.out (), hka]
  have hl' := Lib.hid hl
  have hb' := Lib.hid hb
  clear hl hb hka
  go_enter Try.func61, Try.ntmps61
  go_wp2_with fail
  clear hw1
  go_loopw [3, 4] (fun sv iv wr => ∃ (i n : Nat) (m : List UInt8), i ≤ 32 ∧ m.length = 2 * i ∧ sv = .string ⟨m.toArray⟩ ∧ iv = .int .i64 (i : Int) ∧ Hid (∀ _ : Unit, hexL (l.take i) = m) ∧ wr = w1.drewN n) (fun _ iv _ => 32 - (intOf iv).toNat)
  case atStart => exact ⟨0, 0, [], by omega, rfl, rfl, rfl, Lib.hid fun _ => rfl, rfl⟩
  case round =>
    obtain ⟨i, n, m, hi, hml, rfl, rfl, hm, hwr⟩ := hrel
    have hwr' := Lib.hid hwr
    have hml' := Lib.hid hml
    have j1 : Hid (BlkY wr g l) := Lib.hid (by rw [hwr]; exact k1.out)
    have hBr : Hid (Below w.heap.size w wr) := Lib.hid (by rw [hwr]; exact below_drewN hB.out n)
    clear hwr
    by_cases hlt : i < 32
    · obtain ⟨x, hx⟩ : ∃ x, Hid (l[i]? = some x) := ⟨_, Lib.hid (List.getElem?_eq_getElem (by rw [hl'.out]; exact hlt))⟩
      have hx256 := hb'.out x (List.mem_of_getElem? hx.out)
      have cx := j1.out.cell (k := i) (by rw [hl'.out]; exact hlt)
      rw [hx.out, Option.getD_some] at cx
      obtain ⟨q, hq⟩ : ∃ q, x / 16 = q := ⟨_, rfl⟩
      obtain ⟨r, hr⟩ : ∃ r, x % 16 = r := ⟨_, rfl⟩
      have d1 : (x : Int) / 16 = (q : Int) := by omega
      have d2 : bits .and .u8 (x : Int) 15 = (r : Int) := by rw [and15 x hx256, hr]
      have hq16 : q < 16 := by omega
      have hr16 : r < 16 := by omega
      obtain ⟨q1, hq1⟩ : ∃ q1 : Nat, (q : Int) + 1 = (q1 : Int) := ⟨q + 1, by omega⟩
      obtain ⟨r1, hr1⟩ : ∃ r1 : Nat, (r : Int) + 1 = (r1 : Int) := ⟨r + 1, by omega⟩
      have s1 := dig_slice q hq16
      have s2 := dig_slice r hr16
      rw [hq1] at s1
      rw [hr1] at s2
      have d3 : IntKind.u8.wrap ((q : Int) + 1) = (q1 : Int) := by rw [IntKind.wrap_u8]; omega
      have d4 : IntKind.u8.wrap ((r : Int) + 1) = (r1 : Int) := by rw [IntKind.wrap_u8]; omega
      have a1 := str_snoc m (dg q) (by omega)
      have a2 := str_snoc (m ++ [dg q]) (dg r) (by simp; omega)
      have a3 := str_snoc2 m (dg q) (by omega)
      have a4 := str_snoc2 (m ++ [dg q]) (dg r) (by simp; omega)
      obtain ⟨m1, hm1⟩ : ∃ m1, m ++ [dg q] = m1 := ⟨_, rfl⟩
      obtain ⟨m2, hm2⟩ : ∃ m2, m1 ++ [dg r] = m2 := ⟨_, rfl⟩
      have hm1' := Lib.hid hm1
      have hm2' := Lib.hid hm2
      rw [hm1] at a1 a2 a3 a4
      rw [hm2] at a2 a4
      have hmn : Hid (∀ _ : Unit, hexL (l.take (i + 1)) = m2) := Lib.hid fun _ => by rw [hexL_take hx.out, hm.out (), hq, hr, hm1, hm2]
      clear hq hr hml hm hq1 hr1 hm1 hm2
      go_wp2_with fail
      go_quiet (fail)
      go_wp2_with fail
      go_roundw
      case rel => exact ⟨i + 1, _, _, by omega, by have := hml'.out; rw [← hm2'.out, ← hm1'.out]; simp; omega, rfl, by go_num, hmn, by rw [hwr'.out, World.drewN_drewN]⟩
      case measure => simp [intOf]; omega
    · have hmT : Hid (m = T) := Lib.hid (by rw [← hm.out (), List.take_of_length_le (by rw [hl'.out]; omega)]; exact hT.out ())
      clear hm hml
      go_wp2_with fail
      go_ret
      exact ⟨by first | (rw [hmT.out]; rfl) | (rw [hmT]; rfl) | rfl, hBr.out⟩
end Go.Proofs.Ytlolnpilpdkbkaa

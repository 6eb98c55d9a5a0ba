/- KeySets: the walk. (Printed by tools/genkm.py.) -/
import Derived.Test.YtlolnpilpdkbkaaPkA33
import Derived.Test.YtlolnpilpdkbkaaPkA37
import Derived.Test.YtlolnpilpdkbkaaPkA15

namespace Go.Proofs.Ytlolnpilpdkbkaa
open Go.RowKit Go.Maps
set_option linter.unusedSimpArgs false
set_option linter.unusedVariables false

theorem stepL_len (s : St) (h : s.key.length = 32) : (stepL s).length = 38 := by simp [stepL, u8s_length, h]
theorem kpL_at : ∀ {K : List Kp} {k : Nat} {e : Kp} {j : Nat}, K[k]? = some e → j < 2 → (kpL K)[k * 2 + j]? = (kpV e)[j]?
  | [], k, e, j, h, _ => by simp at h
  | x :: r, 0, e, j, h, hj => by
    simp at h
    subst h
    unfold kpL
    rw [List.flatMap_cons, Nat.zero_mul, Nat.zero_add, List.getElem?_append_left (by simp [kpV]; omega)]
  | x :: r, k + 1, e, j, h, hj => by
    have ih := kpL_at (K := r) (k := k) (e := e) (j := j) (by simpa using h) hj
    unfold kpL at ih ⊢
    rw [List.flatMap_cons, List.getElem?_append_right (by simp [kpV]; omega), show (k + 1) * 2 + j - (kpV x).length = k * 2 + j by simp [kpV]; omega, ih]
/-- What is kept, where it lies. -/
theorem WS.kept_at {w0 W : World} {T : List (List Nat)} {gw ck : Nat} {P : Nat → Pl} {Ak : Option Addr} {K : List Kp} (h : WS w0 T gw P Ak ck K W) {k : Nat} {e : Kp} (hk : K[k]? = some e) : ∃ b, Ak = some ⟨b, 0, none⟩ ∧ W.rangeAt b (k * 2) (kpV e) := by
  have hl := (List.getElem?_eq_some_iff.1 hk).1
  obtain ⟨b, rfl⟩ := h.row.head (by omega)
  refine ⟨b, rfl, fun j v hv => ?_⟩
  have hj : j < 2 := by have := (List.getElem?_eq_some_iff.1 hv).1; simpa [kpV] using this
  rw [h.row.cell (k * 2 + j) (by omega), kpL_at hk hj, hv]
/-- The script's steps in memory. -/
def Steps (w : World) (T : List (List Nat)) (A : Option Addr) (zs : List St) : Prop :=
  ∀ (k : Nat) st, zs[k]? = some st → StOk w T st ∧ ∃ b off, A = some ⟨b, off, none⟩ ∧ b < w.heap.size ∧ w.rangeAt b (off + k * 38) (stepL st)
/-- What stands in the last loop. -/
structure KS4 (w4 : World) (gw i : Nat) (vp : Value) (q : Nat) (A : Option Addr) (N c : Nat) (W : World) : Prop where
  bel : Below w4.heap.size w4 W
  p : W.cell? ⟨gw, i, none⟩ = some vp
  r : W.cell? ⟨gw, 3 + i, none⟩ = some (.pointer (some ⟨q, 0, none⟩))
  q : W.cell? ⟨q, 0, none⟩ = some (.slice A N c)
theorem KS4.below {w4 W W' : World} {gw i q N c : Nat} {vp : Value} {A : Option Addr} (h : KS4 w4 gw i vp q A N c W) (hb : Below W.heap.size W W') : KS4 w4 gw i vp q A N c W' :=
  ⟨h.bel.trans (hb.mono h.bel.size), (hb.cell (p := ⟨gw, i, none⟩) (World.block_lt_of_cell? _ _ h.p)).trans h.p, (hb.cell (p := ⟨gw, 3 + i, none⟩) (World.block_lt_of_cell? _ _ h.r)).trans h.r, (hb.cell (p := ⟨q, 0, none⟩) (World.block_lt_of_cell? _ _ h.q)).trans h.q⟩
/-- A block behind w4 is written. -/
theorem KS4.row {w4 W : World} {gw i q N c g8 : Nat} {vp : Value} {A : Option Addr} (h : KS4 w4 gw i vp q A N c W) (h4 : KS4 w4 gw i vp q A N c w4) (hg : w4.heap.size ≤ g8) (cs : Array Value) : KS4 w4 gw i vp q A N c (W.setRow g8 cs) :=
  h4.below (setRow_below h.bel hg _)
theorem AllAt.row {W : World} {g c g8 : Nat} {A : Option Addr} {ks : List (List Nat)} (h : AllAt W g A c ks) {old : Array Value} {fr : Nat × Nat} (h8 : W.heap[g8]? = some (.cells old 63 fr)) (cs : Array Value) : AllAt (W.setRow g8 cs) g A c ks := by
  refine h.keep (setRow_other W g8 g _ fun e => ?_) (fun k hk => setRow_other W g8 k _ fun e => ?_)
  · have h1 := h.1
    rw [e, h8] at h1
    cases h1
  · obtain ⟨cs', ht⟩ := own_tag h.2 hk
    rw [e, h8] at ht
    cases ht
structure KS5 (w5 : World) (gw i : Nat) (vp : Value) (q : Nat) (A : Option Addr) (N c g8 : Nat) (kv : Array Value) (W : World) : Prop where
  ks : KS4 w5 gw i vp q A N c W
  box : W.heap[g8]? = some (.cells kv 63 (0, 0))
theorem KS5.below {w5 W W' : World} {gw i q N c g8 : Nat} {vp : Value} {A : Option Addr} {kv : Array Value} (h : KS5 w5 gw i vp q A N c g8 kv W) (hb : Below W.heap.size W W') : KS5 w5 gw i vp q A N c g8 kv W' :=
  ⟨h.ks.below hb, (hb.block _ (Array.getElem?_eq_some_iff.1 h.box).1).trans h.box⟩
section
variable {P : Program} {ops : Array Oper} {o : Oper} {a : Act} {w : World} {K : Act → World → Prop} {Q : Exit → Act → World → Prop} {E : Prop}
theorem step_store_rowK (hgd : o.guard = none) (ty : TypeId) (x y : Operand) (ho : o.op = .store ty x y)
    (g : Nat) (cells : Array Value) (hx : a.eval x = .pointer (some ⟨g, 0, none⟩)) (hy : a.eval y = .agg cells)
    (t : TypeId) (old : Array Value) (hg : w.heap[g]? = some (.cells old t (0, 0))) (hi : (P.info? ty).map (·.size) = some cells.size)
    (hold : old.size = cells.size) (h1 : cells.all (·.oneCell') = true)
    (h : K (a.put o.dst undef) (w.setRow g cells)) : if Region.wanted o (yielded ops a.tmps) = true then Oper.wp P o a w K Q else E := by
  rw [if_pos (by simp [Region.wanted, hgd])]
  exact wp_store_row ty x y ho g cells hx hy t old hg hi hold h1 h
end
theorem bldWorld (w : World) : (Instr.build 55 #[]).run Try.prog w = .ok (.agg #[.pointer none, .pointer none, .pointer none, .pointer none, .pointer none, .pointer none, .bool false, .bool false, .bool false, .slice none 0 0]) w := run_build w _ _ _ (by kernel_rfl)
set_option maxRecDepth 100000 in
set_option maxHeartbeats 16000000 in
theorem keySets_any (w : World) (T : List (List Nat)) (hT : T.length ≤ 1048576) (A : Option Addr) (n c : Nat) (zs : List St) (hn : zs.length = n) (hL : n ≤ 1048576) (hA : Steps w T A zs) :
    Calls Try.prog 6 #[.slice A n c] w fun e w' => e = .returned (.bool true) ∧ Below w.heap.size w w' := by
  have hn' := Lib.hid hn
  have hA' := Lib.hid hA
  have hT' := Lib.hid hT
  have hbl := bldWorld
  have hWk : Hid (∀ W, Calls Try.prog 20 #[] W fun e w' => e = .returned (.bool true) ∧ Below W.heap.size W w') := Lib.hid fun W => works_any W
  have hNs : Hid (∀ W, Calls Try.prog 10 #[.slice none 0 0] W fun e w' => e = .returned (.pointer (some ⟨W.heap.size + 1, 0, none⟩)) ∧ SetO w' (some (W.heap.size + 1, W.heap.size)) [] ∧ Below W.heap.size W w') := Lib.hid fun W => (newK_any W none [] 0 0 rfl (by omega) (KeyRow.nil _ _)).mono fun e w' ⟨a, b, c⟩ => ⟨a, ⟨_, b⟩, c⟩
  have hRn : Hid (∀ W, Calls Try.prog 22 #[.slice none 0 0] W (RNewP W [])) := Lib.hid fun W => rNew_any W none [] 0 0 rfl (by omega) (KeyRow.nil _ _)
  have hi38 : Hid ((Try.prog.info? 60).map (·.size) = some 38) := Lib.hid (by kernel_rfl)
  have hi2 : Hid ((Try.prog.info? 63).map (·.size) = some 2) := Lib.hid (by kernel_rfl)
  clear hn hA hT
  go_enter Try.func6, Try.ntmps6
  go_wp2_with (first
    | (go_at_call 20; refine (hWk.out _).mono ?_; rintro e wz ⟨rfl, qz⟩; have qz' := Lib.hid qz; clear qz)
    | (refine wpList_blF rfl 55 _ rfl #[] (by rfl) _ (fun W => hbl W) ?_))
  obtain ⟨c9, hc9⟩ : ∃ v, wz.alloc (.cells #[.pointer none, .pointer none, .pointer none, .pointer none, .pointer none, .pointer none, .bool false, .bool false, .bool false, .slice none 0 0] 55) = v := ⟨_, rfl⟩
  have hbz : Hid (Below w.heap.size w c9) := Lib.hid (by rw [← hc9]; exact qz'.out.alloc qz'.out.size _)
  have hwl9 : Hid (c9.heap[wz.heap.size]? = some (.cells #[.pointer none, .pointer none, .pointer none, .pointer none, .pointer none, .pointer none, .bool false, .bool false, .bool false, .slice none 0 0] 55 (0, 0))) := Lib.hid (by rw [← hc9]; exact heap_alloc_new wz _)
  have hgl : Hid (w.heap.size ≤ wz.heap.size) := Lib.hid qz'.out.size
  rw [hc9]
  generalize wz.heap.size = gw at hwl9 hgl ⊢
  clear hc9 qz' hbl
  refine wp_loop_rounds 4 ?_
  rw [rounds_succ]
  go_wp2_with (first
    | (go_at_call 10; refine (hNs.out _).mono ?_; rintro e a0 ⟨rfl, hs, b⟩
       have hset0 := Lib.hid hs
       have ba0 := Lib.hid b
       obtain ⟨k0, hk0⟩ : ∃ k, c9.heap.size = k := ⟨_, rfl⟩
       have hk0' := Lib.hid hk0
       rw [hk0] at hset0 ⊢
       clear hs b hk0)
    | (go_at_call 22; refine (hRn.out _).mono ?_; rintro e b0 ⟨q0, A0, c0, rfl, href, b, l⟩
       have href0 := Lib.hid href
       have bb0 := Lib.hid b
       have hlq0 := Lib.hid l
       have hwl0' : Hid (b0.heap[gw]? = some (.cells #[.pointer none, .pointer none, .pointer none, .pointer none, .pointer none, .pointer none, .bool false, .bool false, .bool false, .slice none 0 0] 55 (0, 0))) := Lib.hid ((bb0.out.block _ (Nat.lt_of_lt_of_le (Array.getElem?_eq_some_iff.1 hwl9.out).1 ba0.out.size)).trans ((ba0.out.block _ (Array.getElem?_eq_some_iff.1 hwl9.out).1).trans hwl9.out))
       clear href b l)
    | (go_at_call 21; refine (put_raw b0 gw 0 (k0 + 1) q0 (by omega) _ _ _ _ _ _ _ _ _ _ hwl0'.out).mono ?_; rintro e d0 ⟨rfl, hu, hc⟩
       have hu0 := Lib.hid hu
       have hwl0 := Lib.hid hc
       clear hu hc))
  rw [rounds_succ]
  go_wp2_with (first
    | (go_at_call 10; refine (hNs.out _).mono ?_; rintro e a1 ⟨rfl, hs, b⟩
       have hset1 := Lib.hid hs
       have ba1 := Lib.hid b
       obtain ⟨k1, hk1⟩ : ∃ k, d0.heap.size = k := ⟨_, rfl⟩
       have hk1' := Lib.hid hk1
       rw [hk1] at hset1 ⊢
       clear hs b hk1)
    | (go_at_call 22; refine (hRn.out _).mono ?_; rintro e b1 ⟨q1, A1, c1, rfl, href, b, l⟩
       have href1 := Lib.hid href
       have bb1 := Lib.hid b
       have hlq1 := Lib.hid l
       have hwl1' : Hid (b1.heap[gw]? = some (.cells #[.pointer (some ⟨k0 + 1, 0, none⟩), .pointer none, .pointer none, .pointer (some ⟨q0, 0, none⟩), .pointer none, .pointer none, .bool false, .bool false, .bool false, .slice none 0 0] 55 (0, 0))) := Lib.hid ((bb1.out.block _ (Nat.lt_of_lt_of_le (Array.getElem?_eq_some_iff.1 hwl0.out).1 ba1.out.size)).trans ((ba1.out.block _ (Array.getElem?_eq_some_iff.1 hwl0.out).1).trans hwl0.out))
       clear href b l)
    | (go_at_call 21; refine (put_raw b1 gw 1 (k1 + 1) q1 (by omega) _ _ _ _ _ _ _ _ _ _ hwl1'.out).mono ?_; rintro e d1 ⟨rfl, hu, hc⟩
       have hu1 := Lib.hid hu
       have hwl1 := Lib.hid hc
       clear hu hc))
  rw [rounds_succ]
  go_wp2_with (first
    | (go_at_call 10; refine (hNs.out _).mono ?_; rintro e a2 ⟨rfl, hs, b⟩
       have hset2 := Lib.hid hs
       have ba2 := Lib.hid b
       obtain ⟨k2, hk2⟩ : ∃ k, d1.heap.size = k := ⟨_, rfl⟩
       have hk2' := Lib.hid hk2
       rw [hk2] at hset2 ⊢
       clear hs b hk2)
    | (go_at_call 22; refine (hRn.out _).mono ?_; rintro e b2 ⟨q2, A2, c2, rfl, href, b, l⟩
       have href2 := Lib.hid href
       have bb2 := Lib.hid b
       have hlq2 := Lib.hid l
       have hwl2' : Hid (b2.heap[gw]? = some (.cells #[.pointer (some ⟨k0 + 1, 0, none⟩), .pointer (some ⟨k1 + 1, 0, none⟩), .pointer none, .pointer (some ⟨q0, 0, none⟩), .pointer (some ⟨q1, 0, none⟩), .pointer none, .bool false, .bool false, .bool false, .slice none 0 0] 55 (0, 0))) := Lib.hid ((bb2.out.block _ (Nat.lt_of_lt_of_le (Array.getElem?_eq_some_iff.1 hwl1.out).1 ba2.out.size)).trans ((ba2.out.block _ (Array.getElem?_eq_some_iff.1 hwl1.out).1).trans hwl1.out))
       clear href b l)
    | (go_at_call 21; refine (put_raw b2 gw 2 (k2 + 1) q2 (by omega) _ _ _ _ _ _ _ _ _ _ hwl2'.out).mono ?_; rintro e d2 ⟨rfl, hu, hc⟩
       have hu2 := Lib.hid hu
       have hwl2 := Lib.hid hc
       clear hu hc))
  rw [rounds_succ]
  have be0 : Hid (Below w.heap.size w b0) := Lib.hid (hbz.out.trans ((ba0.out.trans (bb0.out.mono ba0.out.size)).mono hbz.out.size))
  have ok0 : Hid (OnlyW gw b0 d0) := Lib.hid ⟨fun k hk hne => hu0.out.block k hk hne, _, hwl0'.out⟩
  have bd0 : Hid (Below w.heap.size w d0) := Lib.hid (be0.out.trans (hu0.out.below (fun k _ e => by rw [e]; exact hgl.out) be0.out.size))
  have z0 : Hid (k0 + 1 < a0.heap.size ∧ a0.heap.size ≤ q0 ∧ q0 < b0.heap.size ∧ b0.heap.size ≤ d0.heap.size ∧ w.heap.size ≤ k0) := Lib.hid ⟨(hset0.out.lts rfl).1, hlq0.out, href0.out.lts.1, hu0.out.size, by rw [← hk0'.out]; exact hbz.out.size⟩
  have pl0 : Hid (PlAt w T ⟨some (k0 + 1, k0), [], q0, A0, c0, []⟩ d0) := Lib.hid (ok0.out.pl (p := ⟨some (k0 + 1, k0), [], q0, A0, c0, []⟩) ⟨hset0.out.below bb0.out, href0.out, Rise32.nil, by have := z0.out; show w.heap.size ≤ q0; omega, fun r hr => by
    have := z0.out
    cases hr
    exact ⟨by show w.heap.size ≤ k0 + 1; omega, by show w.heap.size ≤ k0; omega⟩, by simp, by simp⟩)
  have be1 : Hid (Below w.heap.size w b1) := Lib.hid (bd0.out.trans ((ba1.out.trans (bb1.out.mono ba1.out.size)).mono bd0.out.size))
  have ok1 : Hid (OnlyW gw b1 d1) := Lib.hid ⟨fun k hk hne => hu1.out.block k hk hne, _, hwl1'.out⟩
  have bd1 : Hid (Below w.heap.size w d1) := Lib.hid (be1.out.trans (hu1.out.below (fun k _ e => by rw [e]; exact hgl.out) be1.out.size))
  have z1 : Hid (k1 + 1 < a1.heap.size ∧ a1.heap.size ≤ q1 ∧ q1 < b1.heap.size ∧ b1.heap.size ≤ d1.heap.size ∧ w.heap.size ≤ k1) := Lib.hid ⟨(hset1.out.lts rfl).1, hlq1.out, href1.out.lts.1, hu1.out.size, by rw [← hk1'.out]; exact bd0.out.size⟩
  have pl1 : Hid (PlAt w T ⟨some (k1 + 1, k1), [], q1, A1, c1, []⟩ d1) := Lib.hid (ok1.out.pl (p := ⟨some (k1 + 1, k1), [], q1, A1, c1, []⟩) ⟨hset1.out.below bb1.out, href1.out, Rise32.nil, by have := z1.out; show w.heap.size ≤ q1; omega, fun r hr => by
    have := z1.out
    cases hr
    exact ⟨by show w.heap.size ≤ k1 + 1; omega, by show w.heap.size ≤ k1; omega⟩, by simp, by simp⟩)
  have pl0 := Lib.hid (ok1.out.pl ((pl0.out.below ba1.out).below bb1.out))
  have be2 : Hid (Below w.heap.size w b2) := Lib.hid (bd1.out.trans ((ba2.out.trans (bb2.out.mono ba2.out.size)).mono bd1.out.size))
  have ok2 : Hid (OnlyW gw b2 d2) := Lib.hid ⟨fun k hk hne => hu2.out.block k hk hne, _, hwl2'.out⟩
  have bd2 : Hid (Below w.heap.size w d2) := Lib.hid (be2.out.trans (hu2.out.below (fun k _ e => by rw [e]; exact hgl.out) be2.out.size))
  have z2 : Hid (k2 + 1 < a2.heap.size ∧ a2.heap.size ≤ q2 ∧ q2 < b2.heap.size ∧ b2.heap.size ≤ d2.heap.size ∧ w.heap.size ≤ k2) := Lib.hid ⟨(hset2.out.lts rfl).1, hlq2.out, href2.out.lts.1, hu2.out.size, by rw [← hk2'.out]; exact bd1.out.size⟩
  have pl2 : Hid (PlAt w T ⟨some (k2 + 1, k2), [], q2, A2, c2, []⟩ d2) := Lib.hid (ok2.out.pl (p := ⟨some (k2 + 1, k2), [], q2, A2, c2, []⟩) ⟨hset2.out.below bb2.out, href2.out, Rise32.nil, by have := z2.out; show w.heap.size ≤ q2; omega, fun r hr => by
    have := z2.out
    cases hr
    exact ⟨by show w.heap.size ≤ k2 + 1; omega, by show w.heap.size ≤ k2; omega⟩, by simp, by simp⟩)
  have pl0 := Lib.hid (ok2.out.pl ((pl0.out.below ba2.out).below bb2.out))
  have pl1 := Lib.hid (ok2.out.pl ((pl1.out.below ba2.out).below bb2.out))
  obtain ⟨P0, hP0⟩ : ∃ P0 : Nat → Pl, P0 = fun i => if i = 0 then ⟨some (k0 + 1, k0), [], q0, A0, c0, []⟩ else if i = 1 then ⟨some (k1 + 1, k1), [], q1, A1, c1, []⟩ else ⟨some (k2 + 1, k2), [], q2, A2, c2, []⟩ := ⟨_, rfl⟩
  have hE0 : Hid (Eqs P0) := Lib.hid (by
    rw [hP0]
    intro i hi
    rcases (show i = 0 ∨ i = 1 ∨ i = 2 by omega) with rfl | rfl | rfl <;> rfl)
  have hW0 : Hid (WS w T gw P0 none 0 [] d2) := Lib.hid (by
    have z0 := z0.out
    have z1 := z1.out
    have z2 := z2.out
    have y1 := hk1'.out
    have y2 := hk2'.out
    rw [hP0]
    refine ⟨bd2.out, hgl.out, hwl2.out, Own.nil _ _ _ _, fun i hi => ?_, fun i j hi hj hij => ?_, by simp⟩
    · rcases (show i = 0 ∨ i = 1 ∨ i = 2 by omega) with rfl | rfl | rfl
      · exact pl0.out
      · exact pl1.out
      · exact pl2.out
    · rcases (show i = 0 ∨ i = 1 ∨ i = 2 by omega) with rfl | rfl | rfl <;> rcases (show j = 0 ∨ j = 1 ∨ j = 2 by omega) with rfl | rfl | rfl <;> first
        | exact absurd rfl hij
        | (refine ⟨?_, fun r s hr hs => ?_⟩
           · simp
             omega
           · simp at hr hs
             subst hr hs
             simp
             omega))
  clear hset0 ba0 bb0 href0 hlq0 hu0 hwl0 hwl0' hk0' be0 ok0 bd0 z0 pl0
  clear hset1 ba1 bb1 href1 hlq1 hu1 hwl1 hwl1' hk1' be1 ok1 bd1 z1 pl1
  clear hset2 ba2 bb2 href2 hlq2 hu2 hwl2 hwl2' hk2' be2 ok2 bd2 z2 pl2
  clear hP0 hbz hwl9 hNs hRn hgl
  go_wp2_with fail
  go_loopw [5] (fun iv wr => ∃ (i : Nat) (P : Nat → Pl) (Ak : Option Addr) (ck : Nat) (KK : List Kp), i ≤ n ∧ KK.length ≤ i ∧ iv = .int .i64 (i : Int) ∧ Hid (Eqs P) ∧ Hid (WS w T gw P Ak ck KK wr)) (fun iv _ => n - (intOf iv).toNat)
  case atStart => exact ⟨0, P0, none, 0, [], by omega, by simp, rfl, hE0, hW0⟩
  case round =>
    clear hE0 hW0
    obtain ⟨i, P, Ak, ck, KK, hi, hKK, rfl, hE, hW⟩ := hrel
    by_cases hlt : i < n
    · obtain ⟨st, hst⟩ : ∃ st, zs[i]? = some st := ⟨_, List.getElem?_eq_getElem (by rw [hn'.out]; exact hlt)⟩
      obtain ⟨hok, b, off, rfl, hbl, hrg⟩ := hA'.out i st hst
      have hok' := Lib.hid hok
      have hrk : Hid (∀ W, Below w.heap.size w W → W.rangeAt b (off + i * 38) (stepL st)) := Lib.hid fun W hW => rangeAt_below hW hbl hrg
      have hs38 : Hid ((stepL st).length = 38) := Lib.hid (stepL_len st hok.key.1)
      clear hst hok hbl hrg
      go_wp2_with (first
        | (refine wpList_load_mid rfl 60 _ rfl b (off + i * 38) rfl (stepL st) _ (hrk.out _ hW.out.bel) Try.underlying60 rfl (by rw [hs38.out]; exact hi38.out) ?_)
        | (go_at_call 23; refine (asks_any w _ T hT'.out gw P Ak ck KK (by omega) hW.out hE.out st hok'.out).mono ?_; rintro e w5 ⟨rfl, Ak2, ck2, K2, hl2, hW5⟩
           have hW5' := Lib.hid hW5
           have hl2' := Lib.hid hl2
           clear hW5 hl2 hW)
        | (refine wpList_load_mid_gA (by rfl) 60 _ rfl b (off + i * 38) rfl (stepL st) _ (hrk.out _ hW5'.out.bel) Try.underlying60 rfl (by rw [hs38.out]; exact hi38.out) ?_)
        | (go_at_call 24; refine (changes_any w _ T hT'.out gw P Ak2 ck2 K2 hW5'.out hE.out st hok'.out).mono ?_; rintro e w6 ⟨rfl, P2, hE2, hW6⟩
           have hW6' := Lib.hid hW6
           have hE2' := Lib.hid hE2
           clear hW6 hE2 hW5' hE))
      go_roundw
      case rel => exact ⟨i + 1, P2, Ak2, ck2, K2, by omega, by have := hl2'.out; omega, by go_num, hE2', hW6'⟩
      case measure => simp [intOf]; omega
    · clear hA'
      obtain ⟨nK, hnK⟩ : ∃ nK, KK.length = nK := ⟨_, rfl⟩
      have hnK' := Lib.hid hnK
      have hnKl : nK ≤ 1048576 := by omega
      clear hnK hKK
      go_wp2_with fail
      go_loopw [6] (fun kv wr => ∃ k : Nat, k ≤ nK ∧ kv = .int .i64 (k : Int) ∧ Hid (WS w T gw P Ak ck KK wr)) (fun kv _ => nK - (intOf kv).toNat)
      case atStart => exact ⟨0, by omega, rfl, hW⟩
      case round =>
        clear hW
        obtain ⟨k, hk, rfl, hW⟩ := hrel
        have c9 := hW.out.ck9
        rw [hnK'.out] at c9
        by_cases hlt : k < nK
        · obtain ⟨e, he⟩ : ∃ e, KK[k]? = some e := ⟨_, List.getElem?_eq_getElem (by rw [hnK'.out]; exact hlt)⟩
          obtain ⟨b, rfl, hrg⟩ := hW.out.kept_at he
          have hrg' := Lib.hid hrg
          have hke := hW.out.kp e (List.mem_of_getElem? he)
          have hTl : Hid (Calls Try.prog 25 #[.agg (kpV e).toArray] wr fun e w' => e = .returned (.bool true) ∧ Below wr.heap.size wr w') := Lib.hid (tells_any wr e.g e.cI e.AI e.ks hke.all hke.rise (by have := hke.len; have := hT'.out; omega) e.A e.c hke.own)
          have hl2 : Hid ((kpV e).length = 2) := Lib.hid rfl
          obtain ⟨ev, hev⟩ : ∃ ev, kpV e = ev := ⟨_, rfl⟩
          rw [hev] at hrg' hTl hl2
          clear he hrg hke hev
          go_wp2_with (first
            | (refine wpList_load_mid rfl 63 _ rfl b (k * 2) rfl ev _ hrg'.out Try.underlying63 rfl (by rw [hl2.out]; exact hi2.out) ?_)
            | (go_at_call 25; refine hTl.out.mono ?_; rintro e w5 ⟨rfl, h5⟩; have hW5 := Lib.hid (hW.out.keep h5); clear h5 hTl))
          go_roundw
          case rel => exact ⟨k + 1, by omega, by go_num, hW5⟩
          case measure => simp [intOf]; omega
        · skip
          go_wp2_with fail
          clear hlt hk c9
          go_loopw [7] (fun iv wr => ∃ i : Nat, i ≤ 3 ∧ iv = .int .i64 (i : Int) ∧ Hid (WS w T gw P Ak ck KK wr)) (fun iv _ => 3 - (intOf iv).toNat)
          case atStart => exact ⟨0, by omega, rfl, hW⟩
          case round =>
            clear hW
            obtain ⟨i, hi, rfl, hW⟩ := hrel
            by_cases hlt : i < 3
            rotate_left
            · go_wp2_with fail
              go_ret
              exact ⟨rfl, hW.out.bel⟩
            obtain ⟨w4, hw4⟩ : ∃ v, wr.drew = v := ⟨_, rfl⟩
            have hW4 : Hid (WS w T gw P Ak ck KK w4) := Lib.hid (by rw [← hw4]; exact hW.out.keep (below_drewN (Below.refl _ _) 1))
            have hE4 := hE.out i hlt
            obtain ⟨p, hp⟩ : ∃ p, P i = p := ⟨_, rfl⟩
            rw [hp] at hE4
            obtain ⟨vp, hvp⟩ : ∃ vp, pv p.o = vp := ⟨_, rfl⟩
            obtain ⟨q, hq⟩ : ∃ q, p.q = q := ⟨_, rfl⟩
            obtain ⟨A, hAe⟩ : ∃ A, p.A = A := ⟨_, rfl⟩
            obtain ⟨c, hce⟩ : ∃ c, p.c = c := ⟨_, rfl⟩
            obtain ⟨N, hNe⟩ : ∃ N, p.kr.length = N := ⟨_, rfl⟩
            have hpl : Hid (∀ W, Below w4.heap.size w4 W → PlAt w T p W) := Lib.hid fun W hb => by rw [← hp]; exact (hW4.out.keep hb).pl i hlt
            have h40 : Hid (KS4 w4 gw i vp q A N c w4) := Lib.hid (by
              have a := hW4.out.cp hlt
              have b := hW4.out.cr hlt
              have d := (hpl.out w4 (Below.refl _ _)).ref.cel hNe
              rw [hp, hvp] at a
              rw [hp, hq] at b
              rw [hq, hAe, hce] at d
              exact ⟨Below.refl _ _, a, b, d⟩)
            have hAl : Hid (∀ W, Below w4.heap.size w4 W → Calls Try.prog 26 #[vp] W (AllP W p.kr)) := Lib.hid fun W hb => by
              have hpw := hpl.out W hb
              have := allO_any W p.o p.kp hpw.set (by have := hpw.lenP; have := hT'.out; omega)
              rw [hvp, hE4] at this
              exact this
            have hLn : Hid (∀ W, Below w4.heap.size w4 W → Calls Try.prog 14 #[vp] W fun e w' => e = .returned (.int .i64 (N : Int)) ∧ Below W.heap.size W w') := Lib.hid fun W hb => by
              have := lenO_any W p.o p.kp (hpl.out W hb).set
              rw [hvp, hE4, hNe] at this
              exact this.mono fun e w' ⟨a, b⟩ => ⟨a, b ▸ Below.refl _ _⟩
            have hTe : Hid (∀ W gI cI AI, Below w4.heap.size w4 W → AllAt W gI AI cI p.kr → Calls Try.prog 25 #[.agg #[.func (.func 53) #[] #[.pointer (some ⟨gI, 0, none⟩)], .slice A N c]] W fun e w' => e = .returned (.bool true) ∧ Below W.heap.size W w') := Lib.hid fun W gI cI AI hb hat => by
              have hpw := hpl.out W hb
              have := tells_any W gI cI AI p.kr hat hpw.rise (by have := hpw.lenR; have := hT'.out; omega) p.A p.c hpw.ref.2
              rw [hAe, hce, hNe] at this
              exact this
            have hd : Hid (KS4 w4 gw i vp q A N c w4) := h40
            have hlt3 : (i : Int) < 3 := by omega
            have hNl : Hid (N ≤ 1048576) := Lib.hid (by rw [← hNe]; have := (hpl.out w4 (Below.refl _ _)).lenR; have := hT'.out; omega)
            clear hE4 hp hvp hq hAe hce hNe hW
            go_wp2_with fail
            refine wp_region_held (S := KS4 w4 gw i vp q A N c) (by kernel_rfl) ?_
            change wpAnyH _ _ _ _ _ _ _ _ (World.drew _)
            rw [hw4]
            refine tk (i := 0) (d := 66) (v := (.pointer (some ⟨gw, 0, none⟩))) rfl rfl (Or.inl ⟨by rfl, by intro W hW; clear hW; go_simp⟩) hd.out ?_
            simp only [List.setIfInBounds_toArray, List.set_cons_zero, List.set_cons_succ]
            refine tk (i := 1) (d := 67) (v := (.int .i64 (i : Int))) rfl rfl (Or.inl ⟨by rfl, by intro W hW; clear hW; go_simp⟩) hd.out ?_
            simp only [List.setIfInBounds_toArray, List.set_cons_zero, List.set_cons_succ]
            refine tk (i := 2) (d := 68) (v := (.pointer (some ⟨gw, 0, none⟩))) rfl rfl (Or.inl ⟨by rfl, by intro W hW; clear hW; go_simp⟩) hd.out ?_
            simp only [List.setIfInBounds_toArray, List.set_cons_zero, List.set_cons_succ]
            refine tk (i := 3) (d := 69) (v := (.pointer (some ⟨gw, 0, none⟩))) rfl rfl (Or.inl ⟨by rfl, by intro W hW; clear hW; go_simp⟩) hd.out ?_
            simp only [List.setIfInBounds_toArray, List.set_cons_zero, List.set_cons_succ]
            refine tk (i := 4) (d := 70) (v := (.pointer (some ⟨gw, i, none⟩))) rfl rfl (Or.inl ⟨by rfl, by intro W hW; clear hW; go_simp⟩) hd.out ?_
            simp only [List.setIfInBounds_toArray, List.set_cons_zero, List.set_cons_succ]
            refine tk (i := 5) (d := 71) (v := (vp)) rfl rfl (Or.inl ⟨by rfl, by intro W hW; have c0 := hW.p; clear hW; go_simp⟩) hd.out ?_
            simp only [List.setIfInBounds_toArray, List.set_cons_zero, List.set_cons_succ]
            refine tk (i := 7) (d := 73) (v := (.pointer (some ⟨gw, 0, none⟩))) rfl rfl (Or.inl ⟨by rfl, by intro W hW; clear hW; go_simp⟩) hd.out ?_
            simp only [List.setIfInBounds_toArray, List.set_cons_zero, List.set_cons_succ]
            refine tk (i := 8) (d := 74) (v := (.int .i64 (i : Int))) rfl rfl (Or.inl ⟨by rfl, by intro W hW; clear hW; go_simp⟩) hd.out ?_
            simp only [List.setIfInBounds_toArray, List.set_cons_zero, List.set_cons_succ]
            refine tk (i := 9) (d := 75) (v := (.pointer (some ⟨gw, 0, none⟩))) rfl rfl (Or.inl ⟨by rfl, by intro W hW; clear hW; go_simp⟩) hd.out ?_
            simp only [List.setIfInBounds_toArray, List.set_cons_zero, List.set_cons_succ]
            refine tk (i := 10) (d := 76) (v := (.pointer (some ⟨gw, 3, none⟩))) rfl rfl (Or.inl ⟨by rfl, by intro W hW; clear hW; go_simp⟩) hd.out ?_
            simp only [List.setIfInBounds_toArray, List.set_cons_zero, List.set_cons_succ]
            refine tk (i := 11) (d := 77) (v := (.pointer (some ⟨gw, 3 + i, none⟩))) rfl rfl (Or.inl ⟨by rfl, by intro W hW; clear hW; go_simp⟩) hd.out ?_
            simp only [List.setIfInBounds_toArray, List.set_cons_zero, List.set_cons_succ]
            refine tk (i := 12) (d := 78) (v := (.pointer (some ⟨q, 0, none⟩))) rfl rfl (Or.inl ⟨by rfl, by intro W hW; have c0 := hW.r; clear hW; go_simp⟩) hd.out ?_
            simp only [List.setIfInBounds_toArray, List.set_cons_zero, List.set_cons_succ]
            refine tk (i := 13) (d := 79) (v := (.pointer (some ⟨q, 0, none⟩))) rfl rfl (Or.inl ⟨by rfl, by intro W hW; clear hW; go_simp⟩) hd.out ?_
            simp only [List.setIfInBounds_toArray, List.set_cons_zero, List.set_cons_succ]
            refine tk (i := 14) (d := 80) (v := (.pointer (some ⟨q, 0, none⟩))) rfl rfl (Or.inl ⟨by rfl, by intro W hW; clear hW; go_simp⟩) hd.out ?_
            simp only [List.setIfInBounds_toArray, List.set_cons_zero, List.set_cons_succ]
            refine tk (i := 15) (d := 81) (v := (.slice A N c)) rfl rfl (Or.inl ⟨by rfl, by intro W hW; have c0 := hW.q; clear hW; go_simp⟩) hd.out ?_
            simp only [List.setIfInBounds_toArray, List.set_cons_zero, List.set_cons_succ]
            refine wpAnyH_ready (rs := [6, 17]) (by kernel_rfl) (by simp) ?_
            refine AllReadyH.cons rfl (fun K hK => ?_) (AllReadyH.cons rfl (fun K hK => ?_) AllReadyH.nil)
            · go_simp
              refine (hAl.out _ (hd.out.bel)).mono ?_
              rintro e va ⟨gI, AI, cI, rfl, hat0, qa, _, _⟩
              have hda : Hid (KS4 w4 gw i vp q A N c va) := Lib.hid (hd.out.below qa)
              have hat := Lib.hid hat0
              have hbk := Lib.hid (bldKept gI A N c)
              clear qa hat0
              refine hK.out _ _ hda.out (fun _ => ?_)
              clear hK K
              refine tk (i := 16) (d := 82) (v := (.agg #[.func (.func 53) #[] #[.pointer (some ⟨gI, 0, none⟩)], .slice A N c])) rfl rfl (yieldsIf_bld (by rfl) 63 _ rfl #[(0, .func (.func 53) #[] #[.pointer (some ⟨gI, 0, none⟩)]), (1, .slice A N c)] (by rw [List.map_toArray]; rfl) _ hbk.out) hda.out ?_
              simp only [List.setIfInBounds_toArray, List.set_cons_zero, List.set_cons_succ]
              refine wpAnyH_ready (rs := [17]) (by kernel_rfl) (by simp) ?_
              refine AllReadyH.cons rfl (fun K hK => ?_) AllReadyH.nil
              go_simp
              obtain ⟨vb, hvb⟩ : ∃ v, World.alloc va (.cells #[.nilFunc, .slice none 0 0] 63) = v := ⟨_, rfl⟩
              have qb : Below (World.heap va).size va vb := by rw [← hvb]; exact (Below.refl _ _).alloc (Nat.le_refl _) _
              have hdb : Hid (KS4 w4 gw i vp q A N c vb) := Lib.hid (hda.out.below qb)
              have hg8 : vb.heap[(World.heap va).size]? = some (.cells #[.nilFunc, .slice none 0 0] 63 (0, 0)) := by rw [← hvb]; exact heap_alloc_new _ _
              obtain ⟨g8, he8⟩ : ∃ k, (World.heap va).size = k := ⟨_, rfl⟩
              have hl8 : Hid (w4.heap.size ≤ g8) := Lib.hid (by rw [← he8]; exact hda.out.bel.size)
              rw [he8] at hg8 ⊢
              rw [hvb]
              have hg8 := Lib.hid hg8
              have hat := Lib.hid (hat.out.below qb (Nat.le_refl _))
              clear qb hvb he8
              refine hK.out _ _ hdb.out (fun _ => ?_)
              clear hK K
              refine wpAnyH_ready (rs := [18]) (by kernel_rfl) (by simp) ?_
              refine AllReadyH.cons rfl (fun K hK => ?_) AllReadyH.nil
              refine step_store_rowK rfl 63 _ _ rfl g8 #[.func (.func 53) #[] #[.pointer (some ⟨gI, 0, none⟩)], .slice A N c] rfl rfl 63 #[.nilFunc, .slice none 0 0] hg8.out (by exact hi2.out) rfl (by simp [Value.oneCell']) ?_
              have hds : Hid (KS4 w4 gw i vp q A N c (World.setRow _ g8 #[.func (.func 53) #[] #[.pointer (some ⟨gI, 0, none⟩)], .slice A N c])) := Lib.hid (hdb.out.row h40.out hl8.out _)
              have hat9 := Lib.hid (hat.out.row hg8.out #[.func (.func 53) #[] #[.pointer (some ⟨gI, 0, none⟩)], .slice A N c])
              have hg9 := Lib.hid (setRow_heap _ g8 _ #[.func (.func 53) #[] #[.pointer (some ⟨gI, 0, none⟩)], .slice A N c] _ _ hg8.out)
              first
                | (obtain ⟨w5, hw5⟩ : ∃ v, World.setRow vb g8 #[.func (.func 53) #[] #[.pointer (some ⟨gI, 0, none⟩)], .slice A N c] = v := ⟨_, rfl⟩; rw [hw5] at hds hat9 hg9 ⊢; clear hw5)
                | (obtain ⟨w5, hw5⟩ : ∃ v, World.setRow va g8 #[.func (.func 53) #[] #[.pointer (some ⟨gI, 0, none⟩)], .slice A N c] = v := ⟨_, rfl⟩; rw [hw5] at hds hat9 hg9 ⊢; clear hw5)
              refine hK.out _ _ hds.out (fun _ => ?_)
              clear hK K
              refine wpAnyH_done (by kernel_rfl) ?_ _
              have hd6 := hds
              go_wp2_with fail
              have hd : Hid (KS5 w4 gw i vp q A N c g8 #[.func (.func 53) #[] #[.pointer (some ⟨gI, 0, none⟩)], .slice A N c] w5.drew) := Lib.hid (KS5.below ⟨hd6.out, hg9.out⟩ (below_drewN (Below.refl _ _) 1))
              have hat7 : Hid (AllAt w5.drew gI AI cI p.kr) := Lib.hid (hat9.out.below (below_drewN (Below.refl _ _) 1) (Nat.le_refl _))
              refine wp_region_held (S := KS5 w4 gw i vp q A N c g8 #[.func (.func 53) #[] #[.pointer (some ⟨gI, 0, none⟩)], .slice A N c]) (by kernel_rfl) ?_
              change wpAnyH _ _ _ _ _ _ _ _ (World.drew _)
              refine tk (i := 0) (d := 83) (v := (.agg #[.func (.func 53) #[] #[.pointer (some ⟨gI, 0, none⟩)], .slice A N c])) rfl rfl (yieldsIf_load_row (by rfl) 63 _ rfl g8 rfl 63 #[.func (.func 53) #[] #[.pointer (some ⟨gI, 0, none⟩)], .slice A N c] (0, 0) _ (fun W hW => hW.box) Try.underlying63 rfl (by exact hi2.out)) hd.out ?_
              simp only [List.setIfInBounds_toArray, List.set_cons_zero, List.set_cons_succ]
              refine wpAnyH_ready (rs := [1]) (by kernel_rfl) (by simp) ?_
              refine AllReadyH.cons rfl (fun K hK => ?_) AllReadyH.nil
              go_simp
              refine (hTe.out _ gI cI AI hd.out.ks.bel hat7.out).mono ?_
              rintro e vt ⟨rfl, qt⟩
              have hdt : Hid (KS5 w4 gw i vp q A N c g8 #[.func (.func 53) #[] #[.pointer (some ⟨gI, 0, none⟩)], .slice A N c] vt) := Lib.hid (hd.out.below qt)
              clear qt
              refine hK.out _ _ hdt.out (fun _ => ?_)
              clear hK K
              refine tk (i := 2) (d := 85) (v := (.bool false)) rfl rfl (Or.inl ⟨by rfl, by intro W hW; clear hW; go_simp⟩) hdt.out ?_
              simp only [List.setIfInBounds_toArray, List.set_cons_zero, List.set_cons_succ]
              refine tk (i := 3) (d := 86) (v := (.bool false)) rfl rfl (Or.inl ⟨by rfl, by intro W hW; clear hW; go_simp⟩) hdt.out ?_
              simp only [List.setIfInBounds_toArray, List.set_cons_zero, List.set_cons_succ]
              refine tk (i := 4) (d := 87) (v := (.pointer (some ⟨gw, 0, none⟩))) rfl rfl (Or.inl ⟨by rfl, by intro W hW; clear hW; go_simp⟩) hdt.out ?_
              simp only [List.setIfInBounds_toArray, List.set_cons_zero, List.set_cons_succ]
              refine tk (i := 5) (d := 88) (v := (.int .i64 (i : Int))) rfl rfl (Or.inl ⟨by rfl, by intro W hW; clear hW; go_simp⟩) hdt.out ?_
              simp only [List.setIfInBounds_toArray, List.set_cons_zero, List.set_cons_succ]
              refine tk (i := 6) (d := 89) (v := (.pointer (some ⟨gw, 0, none⟩))) rfl rfl (Or.inl ⟨by rfl, by intro W hW; clear hW; go_simp⟩) hdt.out ?_
              simp only [List.setIfInBounds_toArray, List.set_cons_zero, List.set_cons_succ]
              refine tk (i := 7) (d := 90) (v := (.pointer (some ⟨gw, 0, none⟩))) rfl rfl (Or.inl ⟨by rfl, by intro W hW; clear hW; go_simp⟩) hdt.out ?_
              simp only [List.setIfInBounds_toArray, List.set_cons_zero, List.set_cons_succ]
              refine tk (i := 8) (d := 91) (v := (.pointer (some ⟨gw, i, none⟩))) rfl rfl (Or.inl ⟨by rfl, by intro W hW; clear hW; go_simp⟩) hdt.out ?_
              simp only [List.setIfInBounds_toArray, List.set_cons_zero, List.set_cons_succ]
              refine tk (i := 9) (d := 92) (v := (vp)) rfl rfl (Or.inl ⟨by rfl, by intro W hW; have c0 := hW.ks.p; clear hW; go_simp⟩) hdt.out ?_
              simp only [List.setIfInBounds_toArray, List.set_cons_zero, List.set_cons_succ]
              refine tk (i := 11) (d := 94) (v := (.pointer (some ⟨gw, 0, none⟩))) rfl rfl (Or.inl ⟨by rfl, by intro W hW; clear hW; go_simp⟩) hdt.out ?_
              simp only [List.setIfInBounds_toArray, List.set_cons_zero, List.set_cons_succ]
              refine tk (i := 12) (d := 95) (v := (.int .i64 (i : Int))) rfl rfl (Or.inl ⟨by rfl, by intro W hW; clear hW; go_simp⟩) hdt.out ?_
              simp only [List.setIfInBounds_toArray, List.set_cons_zero, List.set_cons_succ]
              refine tk (i := 13) (d := 96) (v := (.pointer (some ⟨gw, 0, none⟩))) rfl rfl (Or.inl ⟨by rfl, by intro W hW; clear hW; go_simp⟩) hdt.out ?_
              simp only [List.setIfInBounds_toArray, List.set_cons_zero, List.set_cons_succ]
              refine tk (i := 14) (d := 97) (v := (.pointer (some ⟨gw, 3, none⟩))) rfl rfl (Or.inl ⟨by rfl, by intro W hW; clear hW; go_simp⟩) hdt.out ?_
              simp only [List.setIfInBounds_toArray, List.set_cons_zero, List.set_cons_succ]
              refine tk (i := 15) (d := 98) (v := (.pointer (some ⟨gw, 3 + i, none⟩))) rfl rfl (Or.inl ⟨by rfl, by intro W hW; clear hW; go_simp⟩) hdt.out ?_
              simp only [List.setIfInBounds_toArray, List.set_cons_zero, List.set_cons_succ]
              refine tk (i := 16) (d := 99) (v := (.pointer (some ⟨q, 0, none⟩))) rfl rfl (Or.inl ⟨by rfl, by intro W hW; have c0 := hW.ks.r; clear hW; go_simp⟩) hdt.out ?_
              simp only [List.setIfInBounds_toArray, List.set_cons_zero, List.set_cons_succ]
              refine tk (i := 17) (d := 100) (v := (.pointer (some ⟨q, 0, none⟩))) rfl rfl (Or.inl ⟨by rfl, by intro W hW; clear hW; go_simp⟩) hdt.out ?_
              simp only [List.setIfInBounds_toArray, List.set_cons_zero, List.set_cons_succ]
              refine tk (i := 18) (d := 101) (v := (.pointer (some ⟨q, 0, none⟩))) rfl rfl (Or.inl ⟨by rfl, by intro W hW; clear hW; go_simp⟩) hdt.out ?_
              simp only [List.setIfInBounds_toArray, List.set_cons_zero, List.set_cons_succ]
              refine tk (i := 19) (d := 102) (v := (.slice A N c)) rfl rfl (Or.inl ⟨by rfl, by intro W hW; have c0 := hW.ks.q; clear hW; go_simp⟩) hdt.out ?_
              simp only [List.setIfInBounds_toArray, List.set_cons_zero, List.set_cons_succ]
              refine tk (i := 20) (d := 103) (v := (.int .i64 (N : Int))) rfl rfl (Or.inl ⟨by rfl, by intro W hW; clear hW; go_simp⟩) hdt.out ?_
              simp only [List.setIfInBounds_toArray, List.set_cons_zero, List.set_cons_succ]
              refine wpAnyH_ready (rs := [10]) (by kernel_rfl) (by simp) ?_
              refine AllReadyH.cons rfl (fun K hK => ?_) AllReadyH.nil
              go_simp
              refine (hLn.out _ hdt.out.ks.bel).mono ?_
              rintro e vl ⟨rfl, ql⟩
              have hdl : Hid (KS5 w4 gw i vp q A N c g8 #[.func (.func 53) #[] #[.pointer (some ⟨gI, 0, none⟩)], .slice A N c] vl) := Lib.hid (hdt.out.below ql)
              clear ql
              refine hK.out _ _ hdl.out (fun _ => ?_)
              clear hK K
              refine tk (i := 21) (d := 104) (v := (.bool false)) rfl rfl (Or.inl ⟨by rfl, by intro W hW; clear hW; go_simp⟩) hdl.out ?_
              simp only [List.setIfInBounds_toArray, List.set_cons_zero, List.set_cons_succ]
              refine tk (i := 22) (d := 105) (v := (.bool false)) rfl rfl (Or.inl ⟨by rfl, by intro W hW; clear hW; go_simp⟩) hdl.out ?_
              simp only [List.setIfInBounds_toArray, List.set_cons_zero, List.set_cons_succ]
              refine wpAnyH_done (by kernel_rfl) ?_ _
              have hWz := Lib.hid (hW4.out.keep hdl.out.ks.bel)
              go_wp2_with fail
              go_roundw
              case rel => exact ⟨i + 1, by omega, by go_num, hWz⟩
              case measure => simp [intOf]; omega
            · go_simp
              obtain ⟨vb, hvb⟩ : ∃ v, World.alloc w4 (.cells #[.nilFunc, .slice none 0 0] 63) = v := ⟨_, rfl⟩
              have qb : Below (World.heap w4).size w4 vb := by rw [← hvb]; exact (Below.refl _ _).alloc (Nat.le_refl _) _
              have hdb : Hid (KS4 w4 gw i vp q A N c vb) := Lib.hid (hd.out.below qb)
              have hg8 : vb.heap[(World.heap w4).size]? = some (.cells #[.nilFunc, .slice none 0 0] 63 (0, 0)) := by rw [← hvb]; exact heap_alloc_new _ _
              obtain ⟨g8, he8⟩ : ∃ k, (World.heap w4).size = k := ⟨_, rfl⟩
              have hl8 : Hid (w4.heap.size ≤ g8) := Lib.hid (by rw [← he8]; exact hd.out.bel.size)
              rw [he8] at hg8 ⊢
              rw [hvb]
              have hg8 := Lib.hid hg8
              clear qb hvb he8
              refine hK.out _ _ hdb.out (fun _ => ?_)
              clear hK K
              refine wpAnyH_ready (rs := [6]) (by kernel_rfl) (by simp) ?_
              refine AllReadyH.cons rfl (fun K hK => ?_) AllReadyH.nil
              go_simp
              refine (hAl.out _ (hdb.out.bel)).mono ?_
              rintro e va ⟨gI, AI, cI, rfl, hat0, qa, _, _⟩
              have hda : Hid (KS4 w4 gw i vp q A N c va) := Lib.hid (hdb.out.below qa)
              have hat := Lib.hid hat0
              have hbk := Lib.hid (bldKept gI A N c)
              have hg8 := Lib.hid ((qa.block _ (Array.getElem?_eq_some_iff.1 hg8.out).1).trans hg8.out)
              clear qa hat0
              refine hK.out _ _ hda.out (fun _ => ?_)
              clear hK K
              refine tk (i := 16) (d := 82) (v := (.agg #[.func (.func 53) #[] #[.pointer (some ⟨gI, 0, none⟩)], .slice A N c])) rfl rfl (yieldsIf_bld (by rfl) 63 _ rfl #[(0, .func (.func 53) #[] #[.pointer (some ⟨gI, 0, none⟩)]), (1, .slice A N c)] (by rw [List.map_toArray]; rfl) _ hbk.out) hda.out ?_
              simp only [List.setIfInBounds_toArray, List.set_cons_zero, List.set_cons_succ]
              refine wpAnyH_ready (rs := [18]) (by kernel_rfl) (by simp) ?_
              refine AllReadyH.cons rfl (fun K hK => ?_) AllReadyH.nil
              refine step_store_rowK rfl 63 _ _ rfl g8 #[.func (.func 53) #[] #[.pointer (some ⟨gI, 0, none⟩)], .slice A N c] rfl rfl 63 #[.nilFunc, .slice none 0 0] hg8.out (by exact hi2.out) rfl (by simp [Value.oneCell']) ?_
              have hds : Hid (KS4 w4 gw i vp q A N c (World.setRow _ g8 #[.func (.func 53) #[] #[.pointer (some ⟨gI, 0, none⟩)], .slice A N c])) := Lib.hid (hda.out.row h40.out hl8.out _)
              have hat9 := Lib.hid (hat.out.row hg8.out #[.func (.func 53) #[] #[.pointer (some ⟨gI, 0, none⟩)], .slice A N c])
              have hg9 := Lib.hid (setRow_heap _ g8 _ #[.func (.func 53) #[] #[.pointer (some ⟨gI, 0, none⟩)], .slice A N c] _ _ hg8.out)
              first
                | (obtain ⟨w5, hw5⟩ : ∃ v, World.setRow vb g8 #[.func (.func 53) #[] #[.pointer (some ⟨gI, 0, none⟩)], .slice A N c] = v := ⟨_, rfl⟩; rw [hw5] at hds hat9 hg9 ⊢; clear hw5)
                | (obtain ⟨w5, hw5⟩ : ∃ v, World.setRow va g8 #[.func (.func 53) #[] #[.pointer (some ⟨gI, 0, none⟩)], .slice A N c] = v := ⟨_, rfl⟩; rw [hw5] at hds hat9 hg9 ⊢; clear hw5)
              refine hK.out _ _ hds.out (fun _ => ?_)
              clear hK K
              refine wpAnyH_done (by kernel_rfl) ?_ _
              have hd6 := hds
              go_wp2_with fail
              have hd : Hid (KS5 w4 gw i vp q A N c g8 #[.func (.func 53) #[] #[.pointer (some ⟨gI, 0, none⟩)], .slice A N c] w5.drew) := Lib.hid (KS5.below ⟨hd6.out, hg9.out⟩ (below_drewN (Below.refl _ _) 1))
              have hat7 : Hid (AllAt w5.drew gI AI cI p.kr) := Lib.hid (hat9.out.below (below_drewN (Below.refl _ _) 1) (Nat.le_refl _))
              refine wp_region_held (S := KS5 w4 gw i vp q A N c g8 #[.func (.func 53) #[] #[.pointer (some ⟨gI, 0, none⟩)], .slice A N c]) (by kernel_rfl) ?_
              change wpAnyH _ _ _ _ _ _ _ _ (World.drew _)
              refine tk (i := 0) (d := 83) (v := (.agg #[.func (.func 53) #[] #[.pointer (some ⟨gI, 0, none⟩)], .slice A N c])) rfl rfl (yieldsIf_load_row (by rfl) 63 _ rfl g8 rfl 63 #[.func (.func 53) #[] #[.pointer (some ⟨gI, 0, none⟩)], .slice A N c] (0, 0) _ (fun W hW => hW.box) Try.underlying63 rfl (by exact hi2.out)) hd.out ?_
              simp only [List.setIfInBounds_toArray, List.set_cons_zero, List.set_cons_succ]
              refine wpAnyH_ready (rs := [1]) (by kernel_rfl) (by simp) ?_
              refine AllReadyH.cons rfl (fun K hK => ?_) AllReadyH.nil
              go_simp
              refine (hTe.out _ gI cI AI hd.out.ks.bel hat7.out).mono ?_
              rintro e vt ⟨rfl, qt⟩
              have hdt : Hid (KS5 w4 gw i vp q A N c g8 #[.func (.func 53) #[] #[.pointer (some ⟨gI, 0, none⟩)], .slice A N c] vt) := Lib.hid (hd.out.below qt)
              clear qt
              refine hK.out _ _ hdt.out (fun _ => ?_)
              clear hK K
              refine tk (i := 2) (d := 85) (v := (.bool false)) rfl rfl (Or.inl ⟨by rfl, by intro W hW; clear hW; go_simp⟩) hdt.out ?_
              simp only [List.setIfInBounds_toArray, List.set_cons_zero, List.set_cons_succ]
              refine tk (i := 3) (d := 86) (v := (.bool false)) rfl rfl (Or.inl ⟨by rfl, by intro W hW; clear hW; go_simp⟩) hdt.out ?_
              simp only [List.setIfInBounds_toArray, List.set_cons_zero, List.set_cons_succ]
              refine tk (i := 4) (d := 87) (v := (.pointer (some ⟨gw, 0, none⟩))) rfl rfl (Or.inl ⟨by rfl, by intro W hW; clear hW; go_simp⟩) hdt.out ?_
              simp only [List.setIfInBounds_toArray, List.set_cons_zero, List.set_cons_succ]
              refine tk (i := 5) (d := 88) (v := (.int .i64 (i : Int))) rfl rfl (Or.inl ⟨by rfl, by intro W hW; clear hW; go_simp⟩) hdt.out ?_
              simp only [List.setIfInBounds_toArray, List.set_cons_zero, List.set_cons_succ]
              refine tk (i := 6) (d := 89) (v := (.pointer (some ⟨gw, 0, none⟩))) rfl rfl (Or.inl ⟨by rfl, by intro W hW; clear hW; go_simp⟩) hdt.out ?_
              simp only [List.setIfInBounds_toArray, List.set_cons_zero, List.set_cons_succ]
              refine tk (i := 7) (d := 90) (v := (.pointer (some ⟨gw, 0, none⟩))) rfl rfl (Or.inl ⟨by rfl, by intro W hW; clear hW; go_simp⟩) hdt.out ?_
              simp only [List.setIfInBounds_toArray, List.set_cons_zero, List.set_cons_succ]
              refine tk (i := 8) (d := 91) (v := (.pointer (some ⟨gw, i, none⟩))) rfl rfl (Or.inl ⟨by rfl, by intro W hW; clear hW; go_simp⟩) hdt.out ?_
              simp only [List.setIfInBounds_toArray, List.set_cons_zero, List.set_cons_succ]
              refine tk (i := 9) (d := 92) (v := (vp)) rfl rfl (Or.inl ⟨by rfl, by intro W hW; have c0 := hW.ks.p; clear hW; go_simp⟩) hdt.out ?_
              simp only [List.setIfInBounds_toArray, List.set_cons_zero, List.set_cons_succ]
              refine tk (i := 11) (d := 94) (v := (.pointer (some ⟨gw, 0, none⟩))) rfl rfl (Or.inl ⟨by rfl, by intro W hW; clear hW; go_simp⟩) hdt.out ?_
              simp only [List.setIfInBounds_toArray, List.set_cons_zero, List.set_cons_succ]
              refine tk (i := 12) (d := 95) (v := (.int .i64 (i : Int))) rfl rfl (Or.inl ⟨by rfl, by intro W hW; clear hW; go_simp⟩) hdt.out ?_
              simp only [List.setIfInBounds_toArray, List.set_cons_zero, List.set_cons_succ]
              refine tk (i := 13) (d := 96) (v := (.pointer (some ⟨gw, 0, none⟩))) rfl rfl (Or.inl ⟨by rfl, by intro W hW; clear hW; go_simp⟩) hdt.out ?_
              simp only [List.setIfInBounds_toArray, List.set_cons_zero, List.set_cons_succ]
              refine tk (i := 14) (d := 97) (v := (.pointer (some ⟨gw, 3, none⟩))) rfl rfl (Or.inl ⟨by rfl, by intro W hW; clear hW; go_simp⟩) hdt.out ?_
              simp only [List.setIfInBounds_toArray, List.set_cons_zero, List.set_cons_succ]
              refine tk (i := 15) (d := 98) (v := (.pointer (some ⟨gw, 3 + i, none⟩))) rfl rfl (Or.inl ⟨by rfl, by intro W hW; clear hW; go_simp⟩) hdt.out ?_
              simp only [List.setIfInBounds_toArray, List.set_cons_zero, List.set_cons_succ]
              refine tk (i := 16) (d := 99) (v := (.pointer (some ⟨q, 0, none⟩))) rfl rfl (Or.inl ⟨by rfl, by intro W hW; have c0 := hW.ks.r; clear hW; go_simp⟩) hdt.out ?_
              simp only [List.setIfInBounds_toArray, List.set_cons_zero, List.set_cons_succ]
              refine tk (i := 17) (d := 100) (v := (.pointer (some ⟨q, 0, none⟩))) rfl rfl (Or.inl ⟨by rfl, by intro W hW; clear hW; go_simp⟩) hdt.out ?_
              simp only [List.setIfInBounds_toArray, List.set_cons_zero, List.set_cons_succ]
              refine tk (i := 18) (d := 101) (v := (.pointer (some ⟨q, 0, none⟩))) rfl rfl (Or.inl ⟨by rfl, by intro W hW; clear hW; go_simp⟩) hdt.out ?_
              simp only [List.setIfInBounds_toArray, List.set_cons_zero, List.set_cons_succ]
              refine tk (i := 19) (d := 102) (v := (.slice A N c)) rfl rfl (Or.inl ⟨by rfl, by intro W hW; have c0 := hW.ks.q; clear hW; go_simp⟩) hdt.out ?_
              simp only [List.setIfInBounds_toArray, List.set_cons_zero, List.set_cons_succ]
              refine tk (i := 20) (d := 103) (v := (.int .i64 (N : Int))) rfl rfl (Or.inl ⟨by rfl, by intro W hW; clear hW; go_simp⟩) hdt.out ?_
              simp only [List.setIfInBounds_toArray, List.set_cons_zero, List.set_cons_succ]
              refine wpAnyH_ready (rs := [10]) (by kernel_rfl) (by simp) ?_
              refine AllReadyH.cons rfl (fun K hK => ?_) AllReadyH.nil
              go_simp
              refine (hLn.out _ hdt.out.ks.bel).mono ?_
              rintro e vl ⟨rfl, ql⟩
              have hdl : Hid (KS5 w4 gw i vp q A N c g8 #[.func (.func 53) #[] #[.pointer (some ⟨gI, 0, none⟩)], .slice A N c] vl) := Lib.hid (hdt.out.below ql)
              clear ql
              refine hK.out _ _ hdl.out (fun _ => ?_)
              clear hK K
              refine tk (i := 21) (d := 104) (v := (.bool false)) rfl rfl (Or.inl ⟨by rfl, by intro W hW; clear hW; go_simp⟩) hdl.out ?_
              simp only [List.setIfInBounds_toArray, List.set_cons_zero, List.set_cons_succ]
              refine tk (i := 22) (d := 105) (v := (.bool false)) rfl rfl (Or.inl ⟨by rfl, by intro W hW; clear hW; go_simp⟩) hdl.out ?_
              simp only [List.setIfInBounds_toArray, List.set_cons_zero, List.set_cons_succ]
              refine wpAnyH_done (by kernel_rfl) ?_ _
              have hWz := Lib.hid (hW4.out.keep hdl.out.ks.bel)
              go_wp2_with fail
              go_roundw
              case rel => exact ⟨i + 1, by omega, by go_num, hWz⟩
              case measure => simp [intOf]; omega
end Go.Proofs.Ytlolnpilpdkbkaa

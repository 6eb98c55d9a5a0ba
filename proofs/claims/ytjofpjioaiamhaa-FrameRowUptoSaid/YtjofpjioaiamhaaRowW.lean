/- FrameRow: the law's walk. -/
import Derived.Test.YtjofpjioaiamhaaRowS
import Derived.Deep.RegionHeld3
namespace Go.Proofs.Ytjofpjioaiamhaa
open Go.RowKit Go.Shelf

theorem loadVar_bool {w : World} {a : Addr} {b : Bool} (h : w.cell? a = some (.bool b)) : (loadVar 4 a).run Try.prog w = .ok (.bool b) w := by
  simp [loadVar, go_sem, h]

attribute [local go_sem] Oper.semAt_some
theorem equalIn_func {P : Program} (w : World) (d : Nat) (t : TypeId) {ps rs : Array TypeId} {v : Bool} (h : P.underlying t = some (.func ps rs v)) (f : Fn) (a b : Array Value) : (Op.equalIn (d + 1) t (.func f a b) .nilFunc).run P w = .ok false w := by
  simp [Op.equalIn, run_underlying h]
theorem equal_func {P : Program} (w : World) (t : TypeId) {ps rs : Array TypeId} {v : Bool} (h : P.underlying t = some (.func ps rs v)) (f : Fn) (a b : Array Value) : (Op.equal t (.func f a b) .nilFunc).run P w = .ok false w := equalIn_func w 9999 t h f a b
theorem eql_seq (w : World) (f : Fn) (a b : Array Value) : (binOp .eql 50 (.func f a b) .nilFunc).run Try.prog w = .ok (.bool false) w := by
  simp [binOp, equal_func w _ Try.underlying50 f a b]
theorem keep3 {W W' w7 : World} {p1 p2 p3 : Addr} {v1 v2 v3 : Value} (h : W.cell? p1 = some v1 ∧ W.cell? p2 = some v2 ∧ W.cell? p3 = some v3 ∧ Below w7.heap.size w7 W) (hb : Below W.heap.size W W') :
    W'.cell? p1 = some v1 ∧ W'.cell? p2 = some v2 ∧ W'.cell? p3 = some v3 ∧ Below w7.heap.size w7 W' :=
  ⟨(hb.cell (World.block_lt_of_cell? _ _ h.1)).trans h.1, (hb.cell (World.block_lt_of_cell? _ _ h.2.1)).trans h.2.1, (hb.cell (World.block_lt_of_cell? _ _ h.2.2.1)).trans h.2.2.1, h.2.2.2.trans (hb.mono h.2.2.2.size)⟩
/-- What holds between two rounds over All. -/
def RowI (ls : List (List Nat)) (m : Nat) (w3 : World) (pre : List Rec) (W : World) : Prop :=
  ∃ k : Nat, k ≤ m ∧ pre.map Rec.pr = recE ls k ∧ W.cell? ⟨w3.heap.size, 0, none⟩ = some (.int .i64 (k : Int)) ∧ W.frozen? ⟨w3.heap.size, 0, none⟩ = false ∧ w3.heap.size < W.heap.size ∧ Below w3.heap.size w3 W

set_option maxRecDepth 100000 in
set_option maxHeartbeats 4000000 in
theorem row_any (zs : List In) (hz : List Nat) (AB AH : Option Addr) (m nH cB cH : Nat) (w : World) (hm : zs.length = m) (hmb : m ≤ 140737488351232) (hR : Rd w w.heap.size AB m (fun j => (zs[j]?.getD In.none_).v))
    (hI : ∀ i : Nat, Byt w w.heap.size (zs[i]?.getD In.none_).A (zs[i]?.getD In.none_).l) (hb : ∀ i : Nat, ∀ b ∈ (zs[i]?.getD In.none_).l, b < 256) (hL : ∀ i : Nat, (zs[i]?.getD In.none_).l.length ≤ 140737488351232)
    (hH : Byt w w.heap.size AH hz) (hHb : ∀ b ∈ hz, b < 256) (hHn : hz.length = nH) (hHm : nH ≤ 1048576) :
    Calls Try.prog 7 #[.agg #[.slice AB m cB, .slice AH nH cH]] w fun e w' => e = .returned (.bool true) ∧ Below w.heap.size w w' := by
  have hm' := Lib.hid hm
  have hR' := Lib.hid hR
  have hI' := Lib.hid hI
  have hb' := Lib.hid hb
  have hH' := Lib.hid hH
  have hHb' := Lib.hid hHb
  have hHn' := Lib.hid hHn
  have hL' := Lib.hid hL
  have hbw : Below w.heap.size w ((w.alloc (.cells #[.slice AB m cB, .slice AH nH cH] 45)).alloc (.cells #[.bool false] 4)) := ((Below.refl _ _).alloc (Nat.le_refl _) _).alloc (by simp) _
  have hRw : Rw w ((w.alloc (.cells #[.slice AB m cB, .slice AH nH cH] 45)).alloc (.cells #[.bool false] 4)) AB m cB AH nH cH := by
    have h0 := heap_alloc2_old w (.cells #[.slice AB m cB, .slice AH nH cH] 45) (.cells #[.bool false] 4)
    have h1 := heap_alloc2_new w (.cells #[.slice AB m cB, .slice AH nH cH] 45) (.cells #[.bool false] 4)
    exact ⟨hbw, by simp, cell_of_row _ _ 0 _ _ _ h0, cell_of_row _ _ 1 _ _ _ h0, cell_of_row _ _ 0 _ _ _ h1, frozen_of_row _ _ 0 _ _ h1⟩
  have hsz2 : ((w.alloc (.cells #[.slice AB m cB, .slice AH nH cH] 45)).alloc (.cells #[.bool false] 4)).heap.size = w.heap.size + 2 := by simp
  have hRw' := Lib.hid hRw
  have hsz2' := Lib.hid hsz2
  clear hm hR hI hb hH hHb hHn hL hbw hRw hsz2
  refine calls_marks Try.func7 rfl ?_
  simp only [Try.ntmps7, List.size_toArray, List.length_cons, List.length_nil, Nat.reduceAdd, Nat.reduceSub, Array.replicate_succ, Array.replicate_zero, List.push_toArray, List.append_toArray, List.nil_append, List.cons_append]
  go_wp2_with fail
  generalize ((w.alloc (.cells #[.slice AB m cB, .slice AH nH cH] 45)).alloc (.cells #[.bool false] 4)) = w2 at hRw' hsz2' ⊢
  have hq := hRw'.out
  obtain ⟨_, _, x0, x1, xr, xf⟩ := hq
  go_loop [3, 4] (fun t i => ∃ k : Nat, k ≤ m ∧ i = .int .i64 k ∧ t = .int .i64 (pos (lsOf zs) k : Nat) ∧ pos (lsOf zs) k ≤ 67108864) (fun _ i => m - (intOf i).toNat)
  case atStart => exact ⟨0, by omega, rfl, by rw [pos_zero]; rfl, by rw [pos_zero]; omega⟩
  case round =>
    obtain ⟨k, hk, rfl, rfl, hpos⟩ := hrel
    by_cases hlt : k < m
    · obtain ⟨b, off, hAB, _, q⟩ := Rd.get (hR'.out.below hRw'.out.bel) hlt
      have hst := pos_succ (ls := lsOf zs) (k := k) (by rw [lsOf_len, hm'.out]; exact hlt)
      rw [lsOf_get] at hst
      have hLk := hL'.out k
      generalize zs[k]?.getD In.none_ = z at q hst hLk
      obtain ⟨A, l, c⟩ := z
      simp only [In.v] at q hst hLk
      have hst' := Lib.hid hst
      subst hAB
      by_cases hbig : 67108864 < pos (lsOf zs) k + (l.length + 10)
      · have hbig' : decide (67108864 < ((pos (lsOf zs) k : Nat) : Int) + (l.length : Int) + 10) = true := by simp; omega
        clear hst
        go_wp2_with (go_at_call 13; refine (works_any _).mono ?_; rintro e w3 ⟨rfl, hb3⟩; have hr3 := (hb3.cell (p := ⟨w.heap.size + 1, 0, none⟩) hRw'.out.sz).trans xr; have hf3 := (hb3.frozen (p := ⟨w.heap.size + 1, 0, none⟩) hRw'.out.sz).trans xf)
        refine leaves_none (results_cell1 rfl rfl (loadVar_bool (World.cell?_setCell_same _ _ _ hr3))) ⟨rfl, ?_⟩
        exact (hRw'.out.bel.trans (hb3.mono (Nat.le_of_lt (Nat.lt_of_succ_lt hRw'.out.sz)))).setCell (p := ⟨w.heap.size + 1, 0, none⟩) (by simp) _
      · have hbig' : decide (67108864 < ((pos (lsOf zs) k : Nat) : Int) + (l.length : Int) + 10) = false := by simp; omega
        clear hst
        go_wp2_with fail
        go_round
        case rel => exact ⟨k + 1, by omega, by go_num, by rw [hst'.out]; go_num, by rw [hst'.out]; omega⟩
        case measure => simp [intOf]; omega
    · obtain rfl : m = k := by omega
      clear hlt hk
      have hm10 : 10 * m ≤ 67108864 := Nat.le_trans (pos_ten (ls := lsOf zs) (k := m) (by rw [lsOf_len, hm'.out]; exact Nat.le_refl _)) hpos
      have hP2 : P2 w w2.heap.size (w2.alloc (.cells #[.slice none 0 0] 46)) AB m cB AH nH cH (pos (lsOf zs)) (fun i => (zs[i]?.getD In.none_).l.length + 10) (cat ((lsOf zs).take 0)) 0 0 none 0 none 0 none 0 := by
        have h0 := heap_alloc_new w2 (.cells #[.slice none 0 0] 46)
        exact ⟨hRw'.out.keep ((Below.refl _ _).alloc (by rw [hsz2'.out]; exact Nat.le_refl _) _), by rw [hsz2'.out]; exact Nat.le_refl _, by simp, cell_of_row _ _ 0 _ _ _ h0, frozen_of_row _ _ 0 _ _ h0, by simpa [cat, u8s] using Own.nil _ _ _ _, Own.nil _ _ _ _, Own.nil _ _ _ _, (fun k h => by cases h), (fun k h => by cases h), (fun k h => by cases h)⟩
      have hP2' := Lib.hid hP2
      clear hP2
      go_wp2_with fail
      clear x0 x1 xr xf
      go_loopw [5, 7, 8] (fun al sz i wr => ∃ (k : Nat) (Al Aa As : Option Addr) (cl ca cs : Nat), k ≤ m ∧ i = .int .i64 k ∧ al = .slice Al (pos (lsOf zs) k) cl ∧ sz = .slice As k cs ∧ (∀ j, j < k → (zs[j]?.getD In.none_).l.length ≤ 65526) ∧
        Hid (P2 w w2.heap.size wr AB m cB AH nH cH (pos (lsOf zs)) (fun i => (zs[i]?.getD In.none_).l.length + 10) (cat ((lsOf zs).take k)) k k Al cl Aa ca As cs)) (fun _ _ i _ => m - (intOf i).toNat)
      case atStart => exact ⟨0, none, none, none, 0, 0, 0, by omega, rfl, by rw [pos_zero], rfl, fun j hj => absurd hj (by omega), hP2'⟩
      case round =>
        clear hP2'
        obtain ⟨k, Al, Aa, As, cl, ca, cs, hk, rfl, rfl, rfl, hsm, hP⟩ := hrel
        have hsm' := Lib.hid hsm
        clear hsm
        have hq := hP.out.base
        obtain ⟨_, _, x0, x1, xr, xf⟩ := hq
        by_cases hlt : k < m
        · obtain ⟨b, off, hAB, _, q⟩ := Rd.get (hR'.out.below hP.out.base.bel) hlt
          have hst := pos_succ (ls := lsOf zs) (k := k) (by rw [lsOf_len, hm'.out]; exact hlt)
          rw [lsOf_get] at hst
          have hcs := cat_succ (ls := lsOf zs) (k := k) (by rw [lsOf_len, hm'.out]; exact hlt)
          rw [lsOf_get] at hcs
          have hLk := hL'.out k
          have hmono := pos_mono (ls := lsOf zs) (k := k + 1) (m := m) hlt
          have hpk := Lib.hid fun (wx : World) (h3 : Below w.heap.size w wx) => pack_any (zs[k]?.getD In.none_).l (zs[k]?.getD In.none_).A _ (zs[k]?.getD In.none_).c w.heap.size wx (hb'.out k) rfl (hL'.out k) h3.size ((hI'.out k).below h3)
          have hk1 : Hid ((fun i => (zs[i]?.getD In.none_).l.length + 10) k = (zs[k]?.getD In.none_).l.length + 10) := Lib.hid rfl
          generalize hzk : zs[k]?.getD In.none_ = z at q hst hLk hpk hcs hk1
          have hzk' := Lib.hid hzk
          obtain ⟨A, l, c⟩ := z
          simp only [In.v] at q hst hLk hpk hcs
          have hst' := Lib.hid hst
          have hcs' := Lib.hid hcs
          clear hcs hzk
          subst hAB
          rw [hst] at hmono
          clear hst
          go_wp2_with fail
          refine (hpk.out _ hP.out.base.bel).mono ?_
          rintro e w3 ⟨h3, hb3⟩
          have hbw : b < wr.heap.size := World.block_lt_of_cell? _ _ q
          have q3 := (hb3.cell (p := ⟨b, off + k, none⟩) hbw).trans q
          have hP3 := Lib.hid (hP.out.keep hb3)
          clear x0 x1 xr xf q hpk
          have hq := hP3.out.base
          obtain ⟨_, hsz3, x0, x1, xr, xf⟩ := hq
          rcases h3 with ⟨Ap, cp, rfl, op, hsl⟩ | ⟨rfl, hbig⟩
          · have hg1 : decide (65526 < (l.length : Int)) = false := by simp; omega
            have dA : Dis Aa Ap := Dis.of_lt (fun i hi => (hP.out.oat.lt i hi).2) (fun i hi => (op.lt i hi).1)
            have dS : Dis As Ap := Dis.of_lt (fun i hi => (hP.out.osz.lt i hi).2) (fun i hi => (op.lt i hi).1)
            have hHw := hP.out.hW
            have hHw3 := hP3.out.hW
            have qa := hP3.out.atc
            have fa := hP3.out.atf
            have dA' := Lib.hid dA
            have dS' := Lib.hid dS
            have op' := Lib.hid op
            clear hP dA dS op
            go_wp2_with (first
              | (at_builtin; refine wpList_app1 elI _ #[_] rfl rfl _ _ rfl rfl hP3.out.oat rfl (by intro u hu; simp at hu; subst hu; rfl) (by unfold maxLen; omega) (by omega) (by have := hP3.out.hW; omega) (k + 1) rfl _ rfl ?_; intro A4 c4 w4 o4 at4 hb4; have P4 := Lib.hid (hP3.out.stepA at4 o4); have op4 := Lib.hid (at4.other op'.out dA'.out); have qa4 := (hb4.cell (p := ⟨w2.heap.size, 0, none⟩) (Nat.lt_succ_self _)).trans qa; have fa4 := (hb4.frozen (p := ⟨w2.heap.size, 0, none⟩) (Nat.lt_succ_self _)).trans fa; have hs4 := hb4.size; clear o4 at4 hb4 hP3 x0 x1 xr xf q3 qa fa)
              | (at_builtin; refine wpList_app1h elI _ #[_] rfl rfl _ _ rfl rfl P4.out.osz _ (by simp) rfl (by intro u hu; simp at hu; subst hu; rfl) (by unfold maxLen; omega) (by omega) (by have := P4.out.hW; omega) (k + 1) rfl _ rfl ?_; intro A5 c5 w5 o5 at5 hb5; have P5 := Lib.hid (P4.out.stepS at5 (own_turn o5 (by rw [hzk'.out]; simp))); have op5 := Lib.hid (at5.other (op4.out.setFar (p := ⟨w2.heap.size, 0, none⟩) hHw _) dS'.out); clear o5 at5 hb5 P4 op4)
              | (go_at_call 11; refine (joined_any _ (recL l) _ _ _ (l.length + 10) _ _ _ _ (show (cat ((lsOf zs).take k)).length = pos (lsOf zs) k from rfl) (recL_length l) (by omega) (by omega) (by omega) (Nat.le_refl _) P5.out.oall.byt op5.out.byt).mono ?_; rintro e w6 ⟨⟨A6, c6, rfl, o6⟩, hb6⟩))
            have P6 := P5.out.stepAll (lb := cat ((lsOf zs).take (k + 1))) (A' := A6) (c' := c6) hb6 (by
              have e : (cat ((lsOf zs).take (k + 1))).length = pos (lsOf zs) k + (l.length + 10) := hst'.out
              rw [e, hcs'.out]
              exact o6)
            have hsm2 : ∀ j, j < k + 1 → (zs[j]?.getD In.none_).l.length ≤ 65526 := fun j hj => by
              rcases Nat.lt_or_ge j k with h | h
              · exact hsm'.out j h
              · have : j = k := by omega
                subst this
                rw [hzk'.out]
                exact hsl
            clear P5 op5 hb6 o6
            go_roundw
            case rel => exact ⟨k + 1, A6, A4, A5, c6, c4, c5, by omega, by go_num, by rw [hst'.out], rfl, hsm2, Lib.hid P6⟩
            case measure => simp [intOf]; omega
          · have hg1 : decide (65526 < (l.length : Int)) = true := by simp; omega
            go_wp2_with fail
            refine leaves_none (results_cell1 rfl rfl (loadVar_bool (World.cell?_setCell_same _ _ _ xr))) ⟨rfl, ?_⟩
            exact hP3.out.base.bel.setCell (p := ⟨w.heap.size + 1, 0, none⟩) (by simp) _
        · obtain rfl : m = k := by omega
          clear hlt hk
          have hsm := fun i (hi : i < (lsOf zs).length) => (show ((lsOf zs)[i]?.getD []).length ≤ 65526 by rw [lsOf_get]; exact hsm'.out i (by rw [lsOf_len, hm'.out] at hi; exact hi))
          have hcat : cat ((lsOf zs).take m) = cat (lsOf zs) := by rw [← hm'.out, ← lsOf_len, List.take_length]
          have hcl : (cat (lsOf zs)).length = pos (lsOf zs) m := by rw [← cat_all, lsOf_len, hm'.out]
          have hcb := cat_bytes (ls := lsOf zs) (fun i => by rw [lsOf_get]; exact hb'.out i) hsm
          have hle := hP.out.oall.le
          rw [hcat] at hP hle
          rw [hcl] at hle
          have hea := end_cat hsm
          have hend := end_any (cat (lsOf zs)) Al (pos (lsOf zs) m) cl wr.heap.size wr hcb hcl hle.1 hle.2 (by omega) (Nat.le_refl _) hP.out.oall.byt
          rw [hea, hcl] at hend
          have hend' := Lib.hid hend
          have hcat' := Lib.hid hcat
          have hcl' := Lib.hid hcl
          have hcb' := Lib.hid hcb
          have hsmm := Lib.hid hsm
          have hle' := Lib.hid hle
          clear hcat hcl hcb hsm hend hea hle
          go_wp2_with (first
            | (go_at_call 22; refine hend'.out.mono ?_; rintro e w3 ⟨rfl, hb3⟩; have hP3 := Lib.hid (hP.out.keep hb3); clear hP hb3)
            | fail)
          have hcl3 := hP3.out.oall.lt
          have h1 : Below w3.heap.size w3 (w3.alloc (.cells #[.int .i64 0] 3)) := (Below.refl _ _).alloc (Nat.le_refl _) _
          have hall := all_any (cat (lsOf zs)) Al (pos (lsOf zs) m) cl w3.heap.size (w3.alloc (.cells #[.int .i64 0] 3)) hcl'.out (by omega) (by simp) (Rd.below hP3.out.oall.byt h1)
          refine hall.mono ?_
          rintro e w4 ⟨⟨g, A4, c4, rfl, hg1, hg2, hcg, o4⟩, hb4⟩
          have hq := hb4.cell (p := ⟨w3.heap.size, 0, none⟩) (by simp)
          have hf := hb4.frozen (p := ⟨w3.heap.size, 0, none⟩) (by simp)
          have hsz := hb4.size
          rw [cell_of_row _ _ 0 _ _ _ (heap_alloc_new w3 _)] at hq
          rw [frozen_of_row _ _ 0 _ _ (heap_alloc_new w3 _)] at hf
          simp only [World.size_alloc] at hsz hg1 o4
          have hB4 := Lib.hid (h1.trans (hb4.mono (by simp)))
          clear h1 hb4 hall hcl3 hend'
          have e0 := fun w f a b => eql_seq w f a b
          go_wp2_with fail
          clear e0
          refine wp_rangeFunc (gf := 35) (lb := #[.pointer (some ⟨g, 0, none⟩)]) rfl (enters_of Try.func35 (by kernel_rfl) rfl) (encs := recV) (fun _ => rfl) (G := RecG (cat (lsOf zs))) (fun h => h.2.2.2.2)
            (all1_stops (cat (lsOf zs)) g A4 (pos (lsOf zs) m) c4 (w3.heap.size + 1) w4 hcb'.out hcl'.out (by omega) hg1 hg2 hcg o4) (Mid.refl _ _ _) (Nat.le_refl _)
            (RowI (lsOf zs) m w3) (fun _ _ _ => False) ?_ (fun _ _ _ _ h _ => h) ?_ ⟨0, by omega, rfl, hq, hf, by omega, hB4.out⟩ ?_ ?_ (fun _ _ _ _ _ _ h _ => h.elim)
          · rintro s W W' ⟨p, h0, h1, h2, h3, h4, h5⟩ hp
            exact ⟨p, h0, h1, hp.cell h2, (hp.frozen h2).trans h3, Nat.lt_of_lt_of_le h4 hp.bel.size, below_puts h5 hp (by omega)⟩
          · rintro s W W' ⟨p, h0, h1, h2, h3, h4, h5⟩ hb
            exact ⟨p, h0, h1, (hb.cell (p := ⟨w3.heap.size, 0, none⟩) h4).trans h2, (hb.frozen (p := ⟨w3.heap.size, 0, none⟩) h4).trans h3, Nat.lt_of_lt_of_le h4 hb.size, h5.trans (hb.mono (by omega))⟩
          · rintro lp pre ⟨at_, body, A1, c1⟩ W0 W1 hlp ⟨k, hk, h1, h2, h3, h4, h5⟩ hlt ⟨g1, g2, g3, g4, g5⟩
            rw [h1] at g1
            obtain ⟨hkm, hat, hbd⟩ := recs_next hsmm.out (by rw [lsOf_len, hm'.out]; exact hk) g1 g2
            simp only at g3 g4 hat hbd
            rw [hbd, lsOf_get] at g3
            rw [lsOf_len, hm'.out] at hkm
            subst hat
            have hB1 := Lib.hid (h5.trans (g5.mono (Nat.le_of_lt h4)))
            have q1 := (g5.cell (p := ⟨w3.heap.size, 0, none⟩) h4).trans h2
            have q2 := (g5.frozen (p := ⟨w3.heap.size, 0, none⟩) h4).trans h3
            have hlt1 := Nat.lt_of_lt_of_le h4 g5.size
            have g4' := Lib.hid (g4.base (Nat.le_of_lt h4))
            have hnext : Hid ((pre ++ [((pos (lsOf zs) k, body, A1, c1) : Rec)]).map Rec.pr = recE (lsOf zs) (k + 1)) := Lib.hid (by
              rw [recE_succ, List.map_append, h1, lsOf_get, ← g3]
              rfl)
            clear h1 h2 h3 h5 g1 g2 g4 g5 hbd
            gi_wp2
            refine ⟨KeepsFrom.refl _ _, fun W3 hp => ?_⟩
            have hB3 := Lib.hid (below_puts hB1.out hp (by omega))
            have q3 := hp.cell q1
            have q4 := (hp.frozen q1).trans q2
            have g5 := Lib.hid (g4'.out.puts hp)
            have hs3 := hp.bel.size
            have P := Lib.hid (hP3.out.keep hB3.out)
            have hmid := Lib.hid hp
            clear q1 q2 g4' hB1 hp
            have y0 := P.out.base.x0
            have ya := P.out.atc
            obtain ⟨b, off, hAB, _, q⟩ := Rd.get (hR'.out.below P.out.base.bel) hkm
            obtain ⟨ga, hga⟩ := P.out.oat.head (by omega)
            have yc := P.out.oat
            rw [hga] at yc ya
            have yd := yc.cell k (by omega)
            rw [intsF_get _ hkm] at yd
            have hI := hI'.out k
            have hls := hsm'.out k hkm
            generalize zs[k]?.getD In.none_ = z at q g3 hI hls
            obtain ⟨A, l, c⟩ := z
            simp only [In.v] at q g3 hI hls
            subst g3
            have hsame := Lib.hid (same_eq A1 A c1 c body.length (fun j => ((body[j]?.getD 0 : Nat) : Int)) _ _ W3 (by omega) (g5.out.bs rfl) (hI.below P.out.base.bel))
            clear yc hI
            subst hAB
            gi_wp2_with (refine ⟨trivial, rfl, ?_⟩; gi_at_call 15; refine (CallsIn.inRound lp (callsIn_wide.2 hsame.out)).mono ?_; rintro e w' ⟨rfl, mm, rfl⟩)
            refine ⟨(keepsFrom_drewN _ _ mm).trans (keepsFrom_set _ _ _ _), (Mid.of_below (below_drewN hmid.out.bel mm) (Nat.le_refl _)).setCell (p := ⟨w3.heap.size, 0, none⟩) (Nat.lt_succ_self _) _, k + 1, by omega, hnext.out, ?_, ?_, ?_, (below_drewN hB3.out mm).setCell (p := ⟨w3.heap.size, 0, none⟩) (Nat.le_refl _) _⟩
            · rw [World.cell?_setCell_same (W3.drewN mm) _ _ q3]
              simp
            · rw [World.frozen?_setCell]
              exact q4
            · simp [World.setCell]
              omega
          · rintro D xs W hD hS ⟨k, hk, h1, h2, h3, h4, h5⟩ hmark
            have hkm : k = m := by
              have e := hS
              rw [h1, (all_cat hsmm.out).1, lsOf_len, hm'.out] at e
              have := congrArg List.length e
              rwa [recE_len, recE_len] at this
            subst hkm
            have hw23 := hP3.out.hW
            have P := Lib.hid (hP3.out.keep h5)
            have h5' := Lib.hid h5
            have hmark' := Lib.hid hmark
            clear h1 hS hk h5 hmark
            have y1 := P.out.base.x1
            have hDW : D < W.heap.size := (Array.getElem?_eq_some_iff.1 hmark'.out).1
            have hj := Lib.hid (joined_any hz (cat (lsOf zs)) AH Al nH (pos (lsOf zs) k) cH cl W.heap.size W hHn'.out hcl'.out (by omega) (by omega) (by omega) (Nat.le_refl _) ((hH'.out.below P.out.base.bel).mono P.out.base.bel.size) P.out.oall.byt)
            dsimp only
            go_wp2_with (go_at_call 11; refine hj.out.mono ?_; rintro e w7 ⟨⟨A7, c7, rfl, o7⟩, hb7⟩)
            have P7 := Lib.hid (P.out.keep hb7)
            have hm7 := Lib.hid ((hb7.block D hDW).trans hmark'.out)
            have hDW7 : D < w7.heap.size := Nat.lt_of_lt_of_le hDW hb7.size
            have hi7 := (hb7.cell (p := ⟨w3.heap.size, 0, none⟩) h4).trans h2
            have hlt7 := Nat.lt_of_lt_of_le h4 hb7.size
            have hB7 := Lib.hid (h5'.out.trans (hb7.mono (Nat.le_of_lt h4)))
            have o7' := Lib.hid o7
            have hle7 := o7.le
            have y1 := P7.out.base.x1
            have ya := P7.out.atc
            have hsz7 := P7.out.base.sz
            clear hb7 hj P h5' hmark' o7 h2 h3 h4 hP3
            go_loopw [18] (fun i wr => ∃ j : Nat, j ≤ k ∧ i = .int .i64 j ∧ Hid (Below w7.heap.size w7 wr)) (fun i _ => k - (intOf i).toNat)
            case atStart => exact ⟨0, by omega, rfl, Lib.hid (Below.refl _ _)⟩
            case round =>
              obtain ⟨j, hj, rfl, hb8⟩ := hrel
              have P8 := Lib.hid (P7.out.keep hb8.out)
              have y1 := P8.out.base.x1
              have y0 := P8.out.base.x0
              have ya := P8.out.atc
              by_cases hlt : j < k
              · obtain ⟨ga, hga⟩ := P8.out.oat.head (by omega)
                obtain ⟨gs, hgs⟩ := P8.out.osz.head (by omega)
                subst hga
                subst hgs
                have yc := P8.out.oat
                have yd := yc.cell j (by omega)
                rw [intsF_get _ hlt] at yd
                have ye := P8.out.osz
                have yf := ye.cell j (by omega)
                rw [intsF_get _ hlt] at yf
                have hpm := pos_mono (ls := lsOf zs) (k := j) (m := k) hj
                have hul := unp_long (ls := lsOf zs) hz (k := j) (by rw [lsOf_len, hm'.out]; exact hlt) (hsmm.out j (by rw [lsOf_len, hm'.out]; exact hlt))
                rw [lsOf_get, hHn'.out] at hul
                have hunp := unpack_any (hz ++ cat (lsOf zs)) ((nH : Int) + (pos (lsOf zs) j : Nat)) A7 (nH + pos (lsOf zs) k) c7 w7.heap.size
                have e1 : IntKind.i64.wrap ((nH : Int) + (pos (lsOf zs) j : Nat)) = (nH : Int) + (pos (lsOf zs) j : Nat) := IntWalk.i64_in _ (by omega)
                have hunp' := Lib.hid fun wx (hx : Below w7.heap.size w7 wx) => hunp wx (bytes_app hHb'.out hcb'.out) (by rw [List.length_append, hHn'.out, hcl'.out]) hle7.1 hle7.2 (by omega) hx.size (o7'.out.byt.below hx)
                rw [hul] at hunp'
                have j0 : (0 : Int) ≤ (j : Int) := by omega
                have j1 : (j : Int) < (k : Int) := by omega
                have hP8 := Lib.hid P8.out
                clear hunp hul yc ye hpm
                go_wp2_with fail
                go_region_held3 (fun w' => w'.cell? ⟨w.heap.size, 1, none⟩ = some (.slice AH nH cH) ∧ w'.cell? ⟨w2.heap.size, 0, none⟩ = some (.slice (some ⟨ga, 0, none⟩) k ca) ∧ w'.cell? ⟨ga, j, none⟩ = some (.int .i64 (pos (lsOf zs) j : Nat)) ∧ Below w7.heap.size w7 w')
                  (first | exact ⟨y1, ya, yd, below_drewN hb8.out 1⟩ | exact keep3 (by assumption) hb | assumption)
                  (first
                    | (go_at_call 14; refine (hunp'.out _ (And.right (And.right (And.right (by assumption))))).mono ?_; rintro e w' ⟨A9, c9, rfl, o9, hb⟩))
                rename_i hH
                have hB9 := Lib.hid hH.2.2.2
                have P9 := Lib.hid (P7.out.keep hB9.out)
                have o9' := Lib.hid o9
                clear hH o9 hP8 P8 y0 y1 ya yd yf e1 hunp' hb8 hb
                have y0 := P9.out.base.x0
                obtain ⟨b, off, hAB, _, q⟩ := Rd.get (hR'.out.below P9.out.base.bel) hlt
                have ys := P9.out.osz
                have yf := ys.cell j (by omega)
                rw [intsF_get _ hlt] at yf
                have hI := hI'.out j
                have hls := hsm'.out j hlt
                clear ys
                generalize zs[j]?.getD In.none_ = z at q hI o9' yf hls ⊢
                obtain ⟨A, l, c⟩ := z
                simp only [In.v] at q hI o9' yf hls
                have hsame := Lib.hid (same_eq A9 A c9 c l.length (fun i => ((l[i]?.getD 0 : Nat) : Int)) _ _ w' (by omega) (o9'.out.bs rfl) (hI.below P9.out.base.bel))
                clear hI
                subst hAB
                go_wp2_with (go_at_call 15; refine hsame.out.mono ?_; rintro e w9 ⟨rfl, mm, rfl⟩)
                go_roundw
                case rel => exact ⟨j + 1, by omega, by go_num, Lib.hid (below_drewN hB9.out mm)⟩
                case measure => simp [intOf]; omega
              · obtain rfl : k = j := by omega
                have hi9 := (hb8.out.cell (p := ⟨w3.heap.size, 0, none⟩) hlt7).trans hi7
                have hm9 := Lib.hid ((hb8.out.block D hDW7).trans hm7.out)
                have xr := P8.out.base.r
                have xf := P8.out.base.rf
                have hsz8 := hb8.out.size
                have hwk := Lib.hid (works_any wr)
                go_wp2_with (go_at_call 13; refine hwk.out.mono ?_; rintro e w9 ⟨rfl, hb9⟩; have hr3 := (hb9.cell (p := ⟨w.heap.size + 1, 0, none⟩) P8.out.base.sz).trans xr; have hf3 := (hb9.frozen (p := ⟨w.heap.size + 1, 0, none⟩) P8.out.base.sz).trans xf)
                have hsz2 := hsz2'.out
                have hmf : (w9.setCell ⟨w.heap.size + 1, 0, none⟩ (.bool true)).heap[D]? = some (.deferred (some [])) := (Below.heap_setCell w9 ⟨w.heap.size + 1, 0, none⟩ (.bool true) D (by simp; omega)).trans ((hb9.block D (Nat.lt_of_lt_of_le hDW7 hsz8)).trans hm9.out)
                have hput : Puts D (w9.setCell ⟨w.heap.size + 1, 0, none⟩ (.bool true)) ((w9.setCell ⟨w.heap.size + 1, 0, none⟩ (.bool true)).putObj D (.deferred none)) := Puts.putObj _ hmf rfl (Nat.le_refl _)
                refine leaves_mark hmf (results_cell1 rfl rfl (loadVar_bool (hput.cell (World.cell?_setCell_same w9 _ _ hr3)))) ⟨rfl, ?_⟩
                exact below_puts ((P8.out.base.bel.trans (hb9.mono P8.out.base.bel.size)).setCell (p := ⟨w.heap.size + 1, 0, none⟩) (by simp) _) hput (by omega)
end Go.Proofs.Ytjofpjioaiamhaa

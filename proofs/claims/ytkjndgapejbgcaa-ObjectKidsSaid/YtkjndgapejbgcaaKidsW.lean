/- ObjectKids: the law's walk. -/
import Derived.Test.YtkjndgapejbgcaaKidsC
import Derived.Test.YtkjndgapejbgcaaLeftO
import Derived.Test.YtkjndgapejbgcaaCopied
import Derived.Test.YtkjndgapejbgcaaSameR
import Derived.BigRegion
namespace Go.Proofs.Ytkjndgapejbgcaa
open Go.RowKit
set_option linter.unusedSimpArgs false

theorem flat_set : ∀ (ls : List Key32) (k : Nat) (y : Nat) (hk : k < ls.length), (flat encK ls).set (k * 32) (.int .u8 (y : Int)) = flat encK (ls.set k ⟨(ls[k]).1.set 0 y, by simp [(ls[k]).2]⟩)
  | x :: ls, 0, y, _ => by
    have h : 0 < (encK x).length := by rw [encK_length]; decide
    simp only [flat, List.flatMap_cons, Nat.zero_mul, List.set_cons_zero, List.getElem_cons_zero]
    rw [List.set_append_left _ _ h]
    congr 1
    exact u8s_set _ _ _
  | x :: ls, k + 1, y, hk => by
    have h : (encK x).length ≤ (k + 1) * 32 := by rw [encK_length]; omega
    have ih := flat_set ls k y (by simpa using hk)
    simp only [flat, List.flatMap_cons, List.set_cons_succ, List.getElem_cons_succ] at ih ⊢
    rw [List.set_append_right _ _ h, encK_length, show (k + 1) * 32 - 32 = k * 32 by omega, ih]
/-- What stands since the document's kids were told. -/
structure K3 (w W3 : World) (o : ObjT) (p q : Lay) (S1 : Nat) (A1 : Option Addr) (c1 : Nat) : Prop where
  bel : Below w.heap.size w W3
  ob : OBlk W3 w.heap.size o p
  oin : OBlk W3 S1 o q
  l : LentK W3 (w.heap.size + 1) o q 4
  want : Own W3 (w.heap.size + 1) 28 32 A1 (kidsL o).length c1 (flat encK (kidsL o))
theorem K3.below {w W3 W : World} {o : ObjT} {p q : Lay} {S1 : Nat} {A1 : Option Addr} {c1 : Nat} (h : K3 w W3 o p q S1 A1 c1) (hb : Below W3.heap.size W3 W) : K3 w W o p q S1 A1 c1 :=
  ⟨h.bel.trans (hb.mono h.bel.size), h.ob.below hb (lt_of_block h.ob), h.oin.below hb (lt_of_block h.oin), h.l.below hb, h.want.below hb (fun j hj => (h.want.lt j hj).2)⟩
theorem Own.row0 {w : World} {B : Nat} {e : TypeId} {c n : Nat} {A : Option Addr} {l : List Key32} (h : Own w B e 32 A n c (flat encK l)) (hn : n = l.length) : Row encK 32 w w.heap.size A l := by
  subst hn
  exact h.rd

def mkX : Key32 := ⟨zeros 7 ++ [119] ++ zeros 24, by simp [zeros]⟩
theorem buildX (w : World) : (Instr.build 28 #[(7, .int .u8 119)]).run Try.prog w = .ok (.agg (encK mkX).toArray) w := run_build w _ _ _ (by kernel_rfl)
theorem sameKids (W : World) (ks : List Key32) (n : Nat) (hn : ks.length = n) (A A' : Option Addr) (c c' B B' : Nat) (h1 : Row encK 32 W B A ks) (h2 : Row encK 32 W B' A' ks) (hs : n ≤ 9223372036854775807) :
    Calls Try.prog 11 #[.slice A n c, .slice A' n c'] W fun e w' => e = .returned (.bool true) ∧ ∃ q, w' = W.drewN q := by
  subst hn
  have := lawKeys_any W ks ks A A' c c' B B' h1 h2 hs
  simpa using this
theorem refSame_self (W : World) (o : ObjT) (p q : Lay) (h1 : ObjIn W W.heap.size o p) (h2 : ObjIn W W.heap.size o q) (hf : Fit o) :
    Calls Try.prog 8 #[.agg (ocells o p).toArray, .agg (ocells o q).toArray] W fun e w' => e = .returned (.bool true) ∧ Below W.heap.size W w' := by
  have := refSame_any W o o p q h1 h2 hf hf
  rwa [sameO_self] at this

section
variable {P : Program} {ops : Array Oper} {rest : List Oper} {o : Oper} {a : Act} {w : World} {Q : Exit → Act → World → Prop}
theorem wpList_load_row_g (hw : Region.wanted o (yielded ops a.tmps) = true) (ty : TypeId) (x : Operand) (ho : o.op = .load ty x)
    (g : Nat) (hx : a.eval x = .pointer (some ⟨g, 0, none⟩)) (t : TypeId) (cs : Array Value) (fr : Nat × Nat) (d : TypeDesc) (hg : w.heap[g]? = some (.cells cs t fr))
    (hu : P.underlying ty = some d) (hd : (match d with | .struct _ | .array _ _ => true | _ => false) = true) (hi : (P.info? ty).map (·.size) = some cs.size)
    (h : wpList P ops Q rest (a.put o.dst (.agg cs)) w) : wpList P ops Q (o :: rest) a w :=
  wpList_step fun K hK => by
    rw [if_pos hw]
    exact wp_load_row ty x ho g hx t cs fr d hg hu hd hi (hK _ _ h)
end

set_option maxRecDepth 100000 in
set_option maxHeartbeats 4000000 in
theorem objectKids_any (w : World) (o : ObjT) (p : Lay) (ha : ObjIn w w.heap.size o p) (hf : Fit o) :
    Calls Try.prog 5 #[.agg (ocells o p).toArray] w fun e w' => e = .returned (.bool true) ∧ Below w.heap.size w w' := by
  have hz := zeroO
  have hi39 : (Try.prog.info? 31).map (·.size) = some 39 := by kernel_rfl
  have hi39' := Lib.hid hi39
  have h39' := Lib.hid (fun q : Lay => show (ocells o q).toArray.size = 39 by simp [ocells_length])
  have hone' := Lib.hid (fun q : Lay => show (ocells o q).toArray.all (·.oneCell') = true from all_oneCell_toArray (ocells_one o q))
  have hz39' := Lib.hid (show (ocells oZ pZ).toArray.size = 39 by simp [ocells_length])
  obtain ⟨n, hn⟩ : ∃ n, Hid (∀ _ : Unit, (kidsL o).length = n) := ⟨_, Lib.hid fun _ => rfl⟩
  have ln : n * 32 ≤ 140737488355328 + 32 := by
    rw [← hn.out (), kidsL_length]
    have := hf.ps; have := hf.xs; have := hf.ks
    repeat' split
    all_goals omega
  have ha' := Lib.hid ha
  have hf' := Lib.hid hf
  have hO0 : OBlk (w.alloc (.cells (ocells o p).toArray 31)) w.heap.size o p := heap_alloc_new w _
  have hB0 : Below w.heap.size w (w.alloc (.cells (ocells o p).toArray 31)) := (Below.refl _ _).alloc (Nat.le_refl _) _
  have hO0' := Lib.hid hO0
  have hB0' := Lib.hid hB0
  clear ha hf hi39 hO0 hB0
  go_enter Try.func5, Try.ntmps5
  go_wp2_with (first
    | (refine wpList_load_row_g rfl 31 _ rfl w.heap.size rfl 31 _ (0, 0) _ hO0'.out Try.underlying31 rfl (by rw [h39'.out]; exact hi39'.out) ?_)
    | (go_at_call 7
       refine (copied_any _ o p ((ha'.out.below hB0'.out).mono hB0'.out.size) hf'.out).mono ?_
       rintro e w2 ⟨⟨q, rfl, hl⟩, b2⟩
       have hl2' := Lib.hid (hl.base (B' := w.heap.size + 1) (lt_of_block hO0'.out))
       have hO2' := Lib.hid (hO0'.out.below b2 (lt_of_block hO0'.out))
       have hB2' := Lib.hid (hB0'.out.trans (b2.mono hB0'.out.size))
       clear hl b2 hO0' hB0'
       skip)
    | (refine wpList_store_row rfl 31 _ _ rfl w2.heap.size (ocells o q).toArray rfl rfl 31 _ (heap_alloc_new w2 _) (by rw [h39'.out]; exact hi39'.out) (by rw [h39'.out, hz39'.out]) (hone'.out _) ?_
       have hnw := row_new w2 31 (ocells oZ pZ).toArray (ocells o q).toArray
       have hbb := hnw.2 w2.heap.size (Nat.le_refl _)
       generalize ((w2.alloc (.cells (ocells oZ pZ).toArray 31)).setRow w2.heap.size (ocells o q).toArray) = w3 at hnw hbb ⊢
       have hI3' := Lib.hid (show OBlk w3 w2.heap.size o q from hnw.1)
       have hO3' := Lib.hid (hO2'.out.below hbb (lt_of_block hO2'.out))
       have hB3' := Lib.hid (hB2'.out.trans (hbb.mono hB2'.out.size))
       have hl3' := Lib.hid (hl2'.out.below hbb)
       clear hnw hbb hl2' hO2' hB2'
       generalize w2.heap.size = S1 at hI3' ⊢
       skip)
    | (refine wpList_load_row_g rfl 31 _ rfl w.heap.size rfl 31 _ (0, 0) _ hO3'.out Try.underlying31 rfl (by rw [h39'.out]; exact hi39'.out) ?_)
    | (go_at_call 9
       refine (refKids_any _ o p ((ha'.out.below hB3'.out).mono hB3'.out.size) hf'.out).mono ?_
       rintro e w4 ⟨⟨A1, c1, rfl, o1⟩, b4⟩
       have k3' := Lib.hid (show K3 w w4 o p q S1 A1 c1 from ⟨hB3'.out.trans (b4.mono hB3'.out.size), hO3'.out.below b4 (lt_of_block hO3'.out), hI3'.out.below b4 (lt_of_block hI3'.out), hl3'.out.below b4, o1.base (lt_of_block hO3'.out)⟩)
       rw [hn.out ()]
       clear o1 b4 hB3' hO3' hI3' hl3'
       skip)
    | (refine wpList_load_row_g rfl 31 _ rfl S1 rfl 31 _ (0, 0) _ k3'.out.oin Try.underlying31 rfl (by rw [h39'.out]; exact hi39'.out) ?_)
    | (go_at_call 10
       refine (kids_any _ o q k3'.out.l.objIn hf'.out).mono ?_
       rintro e w5 ⟨⟨A2, c2, rfl, o2⟩, b5⟩
       rw [hn.out ()] at o2 ⊢
       have b5' := Lib.hid b5
       have o2' := Lib.hid o2
       have k5' := Lib.hid (k3'.out.below b5)
       have k4' := k3'
       have lt2' := Lib.hid (fun j hj => (o2'.out.lt j hj).2)
       clear o2 b5 k3'
       skip)
    | (refine wpList_load_row_g rfl 31 _ rfl S1 rfl 31 _ (0, 0) _ k5'.out.oin Try.underlying31 rfl (by rw [h39'.out]; exact hi39'.out) ?_)
    | (go_at_call 10
       refine (kids_any _ o q k5'.out.l.objIn hf'.out).mono ?_
       rintro e w6 ⟨⟨A3, c3, rfl, o3⟩, b6⟩
       rw [hn.out ()] at o3 ⊢
       have o3' := Lib.hid o3
       have k6' := Lib.hid (k5'.out.below b6)
       have b6' := Lib.hid (b5'.out.trans (b6.mono b5'.out.size))
       have o2b' := Lib.hid (o2'.out.below b6 (fun j hj => (o2'.out.lt j hj).2))
       have dis' : Hid (Dis A2 A3) := Lib.hid (Dis.of_lt (fun j hj => (o2'.out.lt j hj).2) (fun j hj => (o3'.out.lt j hj).1))
       clear o3 b6 k5' o2' b5'
       skip))
  have hn63 : n ≤ 9223372036854775807 := by omega
  have r2' := Lib.hid (o2b'.out.row0 (hn.out ()).symm)
  have r3' := Lib.hid (o3'.out.row0 (hn.out ()).symm)
  have r1' := Lib.hid (k6'.out.want.row0 rfl)
  have hnn : Hid ((kidsL o).length = n) := Lib.hid (hn.out ())
  refine (sameKids w6 (kidsL o) n hnn.out A2 A1 c2 c1 _ _ r2'.out r1'.out hn63).mono ?_
  rintro e w' ⟨rfl, q1, rfl⟩
  go_wp2_with fail
  refine (sameKids (w6.drewN q1) (kidsL o) n hnn.out A3 A1 c3 c1 _ _ (by exact r3'.out) (by exact r1'.out) hn63).mono ?_
  rintro e w' ⟨rfl, q2, rfl⟩
  rw [World.drewN_drewN]
  generalize q1 + q2 = q3
  have hb6 : Hid (Below w6.heap.size w6 (w6.drewN q3)) := Lib.hid (below_drewN (Below.refl _ _) _)
  generalize w6.drewN q3 = wd at hb6 ⊢
  have kd := Lib.hid (k6'.out.below hb6.out)
  go_wp2_with (first
    | (refine wpList_load_row_g rfl 31 _ rfl S1 rfl 31 _ (0, 0) _ kd.out.oin Try.underlying31 rfl (by rw [h39'.out]; exact hi39'.out) ?_)
    | (refine wpList_load_row_g rfl 31 _ rfl w.heap.size rfl 31 _ (0, 0) _ kd.out.ob Try.underlying31 rfl (by rw [h39'.out]; exact hi39'.out) ?_))
  refine (refSame_self wd o q p kd.out.l.objIn ((ha'.out.below kd.out.bel).mono kd.out.bel.size) hf'.out).mono ?_
  rintro e w7 ⟨rfl, b7⟩
  have hb7 : Below w6.heap.size w6 w7 := hb6.out.trans (b7.mono hb6.out.size)
  have b7' := Lib.hid (b6'.out.trans (hb7.mono b6'.out.size))
  have o2c' := Lib.hid (o2b'.out.below hb7 (fun j hj => (o2b'.out.lt j hj).2))
  have o3c' := Lib.hid (o3'.out.below hb7 (fun j hj => (o3'.out.lt j hj).2))
  clear b7 hb7 r1' r2' r3' k6' o2b' o3' b6' kd hb6
  go_wp2_with fail
  generalize hS4 : w4.heap.size = S4 at b7' o2c'
  have hS4' := Lib.hid (fun _ : Unit => hS4)
  clear hS4
  generalize w5.heap.size = S5 at o3c' lt2'
  go_loopw [7] (fun i wr => ∃ (k : Nat) (ls : List Key32), k ≤ n ∧ i = .int .i64 k ∧ ls.length = n ∧ Hid (Own wr S4 28 32 A2 n c2 (flat encK ls)) ∧ Hid (Below S4 w4 wr) ∧ Hid (Own wr S5 28 32 A3 n c3 (flat encK (kidsL o)))) (fun i _ => n - (intOf i).toNat)
  case atStart => exact ⟨0, kidsL o, by omega, rfl, hn.out (), o2c', b7', o3c'⟩
  case round =>
    clear o2c' b7' o3c'
    obtain ⟨k, ls, hk, rfl, hls, hown, hbel, hag⟩ := hrel
    by_cases hlt : k < n
    · obtain ⟨gg, rfl⟩ := hown.out.head (by omega)
      have hkl : k < ls.length := by omega
      have hge := Lib.hid (hown.out.lt gg rfl).1
      have hlt5 := Lib.hid (lt2'.out gg rfl)
      have hcl := hown.out.cell (k * 32) (by omega)
      have e0 := flat_get encK_length ls k 0 hkl (by decide)
      rw [Nat.add_zero] at e0
      obtain ⟨x, hx⟩ : ∃ x : Nat, (ls[k]).1[0]?.getD 0 = x := ⟨_, rfl⟩
      have e1 : (encK ls[k])[0]? = some (.int .u8 (x : Int)) := by
        unfold encK
        rw [u8s_get _ 0 (by rw [(ls[k]).2]; decide), hx]
      rw [e0, e1] at hcl
      have hfz := hown.out.frozen (k * 32)
      have hset := Lib.hid (fun y : Nat => hown.out.set (k * 32) (.int .u8 (y : Int)))
      have hfs := Lib.hid (fun y : Nat => flat_set ls k y hkl)
      have hbs := Lib.hid (fun u : Value => hbel.out.setCell (p := ⟨gg, k * 32, none⟩) hge.out u)
      have has := Lib.hid (fun u : Value => hag.out.setFar (p := ⟨gg, k * 32, none⟩) hlt5.out u)
      obtain ⟨y, hy⟩ : ∃ y : Nat, ((x : Int) + 1) % 256 = (y : Int) := ⟨(x + 1) % 256, by omega⟩
      clear e0 e1 hx hown hbel hag
      go_wp2_with fail
      go_region
      go_wp2_with fail
      go_roundw
      case rel => exact ⟨k + 1, ls.set k ⟨(ls[k]).1.set 0 y, by simp [(ls[k]).2]⟩, by omega, by go_num, by simp [hls], Lib.hid (by rw [← hfs.out y]; exact hset.out y), Lib.hid ((hbs.out _).drew), Lib.hid (has.out _)⟩
      case measure => simp [intOf]; omega
    · obtain rfl : k = n := by omega
      go_wp2_with fail
      go_loopw [5, 8] (fun s i wr => ∃ (j : Nat) (A : Option Addr) (c : Nat) (ls : List Key32), j ≤ 16 ∧ i = .int .i64 j ∧ s = .slice A (k + j) c ∧ ls.length = k + j ∧ Hid (Own wr S4 28 32 A (k + j) c (flat encK ls)) ∧ Hid (Below S4 w4 wr) ∧ Hid (Own wr S5 28 32 A3 k c3 (flat encK (kidsL o))) ∧ Hid (Dis A A3)) (fun _ i _ => 16 - (intOf i).toNat)
      case atStart => exact ⟨0, A2, c2, ls, by omega, rfl, rfl, hls, hown, hbel, hag, dis'⟩
      case round =>
        clear hown hbel hag dis'
        obtain ⟨j, A, c, ls2, hj, rfl, rfl, hl2, hown, hbel, hag, hdis⟩ := hrel
        have hS4l : Hid (S4 ≤ wr.heap.size) := Lib.hid (by rw [← hS4'.out ()]; exact (show w4.heap.size ≤ wr.heap.size from hbel.out.size))
        by_cases hlt2 : j < 16
        · have hel1 := Lib.hid (show (k + j + 1 : Nat) ≤ maxLen by unfold maxLen; omega)
          have hel2 := Lib.hid (show (k + j + 1 + (k + j + 1) / 4 + 192) * 32 ≤ 281474976710656 by omega)
          go_wp2_with (first
            | (refine wpList_built rfl 28 _ #[(7, .int .u8 119)] rfl (by rw [List.map_toArray]; rfl) _ (buildX _) ?_)
            | (refine Great.wpList_buildSliceTo rfl 29 28 1 _ rfl _ rfl _ rfl Try.underlying29 (encK mkX).toArray (by rw [List.map_toArray]; exact built1 mkX) ?_)
            | (at_builtin; refine wpList_app1 elK _ (encK mkX).toArray (by simp [encK_length]) rfl _ _ rfl rfl hown.out rfl (by intro u hu; exact encK_one _ u (by simpa using hu)) hel1.out hel2.out hS4l.out (k + (j + 1)) (by omega) (flat encK (ls2 ++ [mkX])) (by rw [flat_append]; simp [flat]) ?_
               intro A' c' w' hown' hat' hb'))
          go_roundw
          case rel => exact ⟨j + 1, A', c', ls2 ++ [mkX], by omega, by go_num, rfl, by simp [hl2]; omega, Lib.hid hown', Lib.hid (hbel.out.trans hb'), Lib.hid (hat'.other hag.out hdis.out), Lib.hid (hat'.dis hag.out hdis.out)⟩
          case measure => simp [intOf]; omega
        · have kf := Lib.hid (k4'.out.below (by rw [hS4'.out ()]; exact hbel.out))
          obtain ⟨wf, rfl⟩ : ∃ wf : World, wf = wr := ⟨_, rfl⟩
          go_wp2_with (first
            | (refine wpList_load_row_g rfl 31 _ rfl S1 rfl 31 _ (0, 0) _ kf.out.oin Try.underlying31 rfl (by rw [h39'.out]; exact hi39'.out) ?_)
            | (refine wpList_load_row_g rfl 31 _ rfl w.heap.size rfl 31 _ (0, 0) _ kf.out.ob Try.underlying31 rfl (by rw [h39'.out]; exact hi39'.out) ?_))
          refine (refSame_self wf o q p kf.out.l.objIn ((ha'.out.below kf.out.bel).mono kf.out.bel.size) hf'.out).mono ?_
          rintro e wa ⟨rfl, ba⟩
          have ka := Lib.hid (kf.out.below ba)
          have haa := Lib.hid (hag.out.below ba (fun j hj => (hag.out.lt j hj).2))
          clear ba kf hag hown hbel hdis k4'
          go_wp2_with (first
            | (refine wpList_load_row_g rfl 31 _ rfl S1 rfl 31 _ (0, 0) _ ka.out.oin Try.underlying31 rfl (by rw [h39'.out]; exact hi39'.out) ?_))
          refine (left_any wa o q _ ka.out.l hf'.out).mono ?_
          rintro e wb ⟨rfl, bb⟩
          have kb := Lib.hid (ka.out.below bb)
          have hab := Lib.hid (haa.out.below bb (fun j hj => (haa.out.lt j hj).2))
          clear bb ka haa
          go_wp2_with fail
          refine (sameKids wb (kidsL o) k hnn.out A3 A1 c3 c1 _ _ (hab.out.row0 hnn.out.symm) (kb.out.want.row0 rfl) hn63).mono ?_
          rintro e w' ⟨rfl, qa, rfl⟩
          have kc := Lib.hid (kb.out.below (below_drewN (Below.refl _ _) qa))
          generalize wb.drewN qa = wc at kc ⊢
          clear kb hab
          go_wp2_with (first
            | (refine wpList_load_row_g rfl 31 _ rfl S1 rfl 31 _ (0, 0) _ kc.out.oin Try.underlying31 rfl (by rw [h39'.out]; exact hi39'.out) ?_))
          refine (kids_any wc o q kc.out.l.objIn hf'.out).mono ?_
          rintro e we ⟨⟨A5, c5, rfl, o5⟩, b5⟩
          have ke := Lib.hid (kc.out.below b5)
          have o5' := Lib.hid o5
          rw [hnn.out] at o5' ⊢
          clear o5 b5 kc
          go_wp2_with fail
          refine (sameKids we (kidsL o) k hnn.out A5 A1 c5 c1 _ _ (o5'.out.row0 hnn.out.symm) (ke.out.want.row0 rfl) hn63).mono ?_
          rintro e w' ⟨rfl, qb, rfl⟩
          go_wp2_with fail
          go_ret
          exact ⟨rfl, below_drewN ke.out.bel _⟩
end Go.Proofs.Ytkjndgapejbgcaa

/- spoilt: the walk. (Printed by tools/genpq4.py.) -/
import Derived.Test.YtgjokkjmljdmbaaPqP
namespace Go.Proofs.Ytgjokkjmljdmbaa
open Go.RowKit Go.Maps
set_option linter.unusedSimpArgs false
set_option linter.unusedVariables false

theorem rowE_at {w : World} {B c n i : Nat} {A : Option Addr} {l : List SE} {e : SE} (h : Own w B 85 3 A n c (rowsE l)) (hn : l.length = n) (hi : l[i]? = some e) :
    ∃ b off, A = some ⟨b, off, none⟩ ∧ w.cell? ⟨b, off + i * 3 + 2, none⟩ = some (.slice e.A e.ks.length e.c) := by
  have hil := (List.getElem?_eq_some_iff.1 hi).1
  obtain ⟨b, off, rfl, hb, hc⟩ := h.rd (by omega)
  refine ⟨b, off, rfl, ?_⟩
  rw [Nat.add_assoc, hc (i * 3 + 2) (by omega)]
  show some ((rowsE l)[i * 3 + 2]?.getD undef) = _
  rw [rowsE_get hi (by omega)]
  rfl
theorem zAt_get {l : List SE} {i : Nat} (h : i < l.length) : l[i]? = some (zAt l i) := by
  unfold zAt
  rw [List.getElem?_eq_getElem h]
  rfl
theorem rdK_at {w : World} {B n : Nat} {A : Option Addr} {l : List (List Nat)} (h : Rd w B A (n * 32) (fun q => (rowsK l)[q]?.getD undef)) (hn : l.length = n) (hl : ∀ x ∈ l, x.length = 32) {j : Nat} {x : List Nat} (hj : l[j]? = some x) :
    ∃ b off, A = some ⟨b, off, none⟩ ∧ w.rangeAt b (off + j * 32) (u8s x) := by
  have hjl := (List.getElem?_eq_some_iff.1 hj).1
  have hx : x.length = 32 := hl x (List.mem_of_getElem? hj)
  obtain ⟨b, off, e, hb, hc⟩ := h (by omega)
  refine ⟨b, off, e, fun i v hv => ?_⟩
  have hi : i < 32 := by
    have := (List.getElem?_eq_some_iff.1 hv).1
    rwa [u8s_length, hx] at this
  have h1 := hc (j * 32 + i) (by omega)
  rw [Nat.add_assoc, h1]
  show some ((rowsK l)[j * 32 + i]?.getD undef) = some v
  rw [rowsK_get hl hj hi, hv, Option.getD_some]
/-- The list, its first p sessions struck out. -/
def blankE (t : Nat) : List Value := [.int .i64 (-(t : Int)), .int .i64 0, .slice none 0 0]
def rowB (t p : Nat) (l : List SE) : List Value := (List.replicate p (blankE t)).flatten ++ rowsE (l.drop p)
theorem blankE_length (t : Nat) : (blankE t).length = 3 := rfl
theorem blanks_length (t p : Nat) : ((List.replicate p (blankE t)).flatten).length = p * 3 := by
  induction p with
  | zero => rfl
  | succ p ih => rw [List.replicate_succ, List.flatten_cons, List.length_append, ih, blankE_length]; omega
theorem rowB_length {t p : Nat} {l : List SE} (h : p ≤ l.length) : (rowB t p l).length = l.length * 3 := by
  unfold rowB
  rw [List.length_append, blanks_length, rowsE_length, List.length_drop]
  omega
theorem rowB_get {t p i j : Nat} {l : List SE} {e : SE} (hp : p ≤ i) (hi : l[i]? = some e) (hj : j < 3) : (rowB t p l)[i * 3 + j]? = (encE e)[j]? := by
  unfold rowB
  rw [List.getElem?_append_right (by rw [blanks_length]; omega), blanks_length, show i * 3 + j - p * 3 = (i - p) * 3 + j by omega]
  exact rowsE_get (by rw [List.getElem?_drop, show p + (i - p) = i by omega]; exact hi) hj
theorem rowB_set {t p : Nat} {l : List SE} (h : p < l.length) : setL (rowB t p l) (p * 3) (blankE t) = rowB t (p + 1) l := by
  have e : rowsE (l.drop p) = encE l[p] ++ rowsE (l.drop (p + 1)) := by
    rw [List.drop_eq_getElem_cons h]
    rfl
  have h1 := setL_mid (blankE t) (encE l[p]) ((List.replicate p (blankE t)).flatten) (rowsE (l.drop (p + 1))) rfl
  rw [blanks_length] at h1
  unfold rowB
  rw [e, ← List.append_assoc, h1, List.replicate_succ', List.flatten_append]
  simp
theorem rowB_zero (t : Nat) (l : List SE) : rowB t 0 l = rowsE l := by simp [rowB]
/-! ### while all is looked at -/
structure Sp3 (zs : List SE) (AL : Option Addr) (cL t : Nat) (w : World) (gs : Gs) (AG : Option Addr) (cG p : Nat) (W : World) : Prop where
  row : Own W 0 85 3 AL zs.length cL (rowB t p zs)
  red : ∀ j, Rd W W.heap.size (zAt zs j).A ((zAt zs j).ks.length * 32) (fun q => (rowsK (mkL j t (zAt zs j).ks.length 0))[q]?.getD undef)
  gro : ∀ j, j < zs.length → Own W 0 29 32 (gs j).1 ((zAt zs j).ks.length + 20) (gs j).2 (rowsK (mkL j t (zAt zs j).ks.length 20))
  lng : Own W w.heap.size 32 1 AG zs.length cG (grL zs gs zs.length)
  disL : ∀ j, Dis AL (zAt zs j).A
  upd : Upd (FS zs AL) w W
section
variable {zs : List SE} {AL : Option Addr} {cL t : Nat} {w W : World} {gs : Gs} {AG : Option Addr} {cG p : Nat}
theorem Sp2.look {Ag : Option Addr} {cg n : Nat} (h : Sp2 zs AL cL t w gs n 0 AG cG Ag cg W) (hn : zs.length = n) (hDL : ∀ j, Dis AL (zAt zs j).A) : Sp3 zs AL cL t w gs AG cG 0 W := by
  subst hn
  exact ⟨by rw [rowB_zero]; exact h.row, h.red, h.gro, h.lng, hDL, h.upd⟩
theorem Sp3.drew (h : Sp3 zs AL cL t w gs AG cG p W) (m : Nat) : Sp3 zs AL cL t w gs AG cG p (W.drewN m) := ⟨h.row, h.red, h.gro, h.lng, h.disL, h.upd.drewN m⟩
theorem Sp3.at_ {i n : Nat} (h : Sp3 zs AL cL t w gs AG cG p W) (hn : zs.length = n) (hp : p ≤ i) (hi : i < n) : ∃ b off, AL = some ⟨b, off, none⟩ ∧ W.cell? ⟨b, off + i * 3 + 2, none⟩ = some (.slice (zAt zs i).A (zAt zs i).ks.length (zAt zs i).c) := by
  subst hn
  obtain ⟨b, off, rfl, hb, hc⟩ := h.row.rd (by omega)
  refine ⟨b, off, rfl, ?_⟩
  rw [Nat.add_assoc, hc (i * 3 + 2) (by omega)]
  show some ((rowB t p zs)[i * 3 + 2]?.getD undef) = _
  rw [rowB_get hp (zAt_get hi) (by omega)]
  rfl
theorem Sp3.put (h : Sp3 zs AL cL t w gs AG cG p W) (hp : p < zs.length) {g : Nat} (hg : AL = some ⟨g, 0, none⟩) : Sp3 zs AL cL t w gs AG cG (p + 1) (W.setCells g (p * 3) (blankE t)) := by
  have ho := h.row
  rw [hg] at ho
  have hk : ∀ {B e size n c : Nat} {A : Option Addr} {xs : List Value}, Own W B e size A n c xs → e ≠ 85 → Own (W.setCells g (p * 3) (blankE t)) B e size A n c xs := fun {B e size n c A xs} h1 hne =>
    own_same1 h1 fun k hk => setCells_same (fun e0 => by subst e0; exact own_unlikeQ h1 ho hne k hk rfl) _ _ _ (h1.lt k hk).2
  refine ⟨?_, fun j hn => ?_, fun j hj => hk (h.gro j hj) (by decide), hk h.lng (by decide), h.disL, upd_setCellsQ w (.inl (by rw [hg]; rfl)) _ _ _ h.upd⟩
  · rw [hg, ← rowB_set hp]
    exact own_setCells _ _ _ _ ho
  · obtain ⟨b, off, e, hb, hc⟩ := h.red j hn
    refine ⟨b, off, e, by rw [setCells_sz]; exact hb, fun q hq => ?_⟩
    have hne : b ≠ g := fun e0 => h.disL j g (by rw [hg]; rfl) (by rw [e, e0]; rfl)
    exact (World.cell?_of_block (setCells_same hne _ _ _ hb)).trans (hc q hq)
end
section
variable {P : Program} {ops : Array Oper} {rest : List Oper} {o : Oper} {a : Act} {w : World} {Q : Exit → Act → World → Prop}
/-- A guarded load of a range of cells; a guarded build. -/
theorem wpList_load_mid_gQ (hw : Region.wanted o (yielded ops a.tmps) = true) (ty : TypeId) (x : Operand) (ho : o.op = .load ty x)
    (b k : Nat) (hx : a.eval x = .pointer (some ⟨b, k, none⟩)) (cs : List Value) (d : TypeDesc) (hc : w.rangeAt b k cs)
    (hu : P.underlying ty = some d) (hd : d.isRow = true) (hi : (P.info? ty).map (·.size) = some cs.length)
    (h : wpList P ops Q rest (a.put o.dst (.agg cs.toArray)) w) : wpList P ops Q (o :: rest) a w :=
  wpList_step fun K hK => by
    rw [if_pos hw]
    exact wp_load_mid ty x ho b k hx cs d hc hu hd hi (hK _ _ h)
theorem wpList_bl_gQ (hw : Region.wanted o (yielded ops a.tmps) = true) (t : TypeId) (parts : Array (Nat × Operand)) (ho : o.op = .build t parts) (vs : Array (Nat × Value)) (hv : (parts.map fun (i, x) => (i, a.eval x)) = vs) (v : Value)
    (hr : ∀ w, (Instr.build t vs).run P w = .ok v w) (h : wpList P ops Q rest (a.put o.dst v) w) : wpList P ops Q (o :: rest) a w :=
  wpList_step fun K hK => by
    rw [if_pos hw]
    unfold Oper.wp execOp
    simp only [ho, hv, Sem.run_bind, hr w, Result.andThen_ok, Sem.run_pure]
    exact hK _ _ h
end
theorem bldSE (v : Int) (w : World) : (Instr.build 85 #[(0, .int .i64 v)]).run Try.prog w = .ok (.agg #[.int .i64 v, .int .i64 0, .slice none 0 0]) w := run_build w _ _ _ (by kernel_rfl)
theorem builtSE (v : Int) : Try.prog.builtSlice 85 1 [(0, .agg #[.int .i64 v, .int .i64 0, .slice none 0 0])] = some #[.int .i64 v, .int .i64 0, .slice none 0 0] := by kernel_rfl
set_option maxRecDepth 100000 in
set_option maxHeartbeats 4000000 in
theorem spoilt_any (w : World) (B c n t : Nat) (A : Option Addr) (l : List SE) (h : SesL w B A c l) (hn : l.length = n) (hn16 : n ≤ 16) (hlen : ∀ (i : Nat) e, l[i]? = some e → e.ks.length ≤ 4398046511104) (ht : t < 3) :
    Calls Try.prog 44 #[.slice A n c, .int .i64 (t : Int)] w fun e w' => e = .returned (.bool true) ∧ Upd (FS l A) w w' := by
  have hz : ∀ i, i < n → l[i]? = some (zAt l i) := fun i hi => zAt_get (by omega)
  have hz' : ∀ i, ¬ i < n → zAt l i = seN := fun i hi => by unfold zAt; rw [List.getElem?_eq_none (by omega)]; rfl
  have hown : ∀ i, Own w 0 29 32 (zAt l i).A (zAt l i).ks.length (zAt l i).c (rowsK (zAt l i).ks) := fun i => by
    by_cases hi : i < n
    · exact (h.each i _ (hz i hi)).base (Nat.zero_le _)
    · rw [hz' i hi]; exact Own.nil _ _ _ _
  have h32 : Hid (∀ i, ∀ x ∈ (zAt l i).ks, x.length = 32) := Lib.hid fun i x hx => by
    by_cases hi : i < n
    · exact ((h.rise i _ (hz i hi)).ok x hx).1
    · rw [hz' i hi] at hx; simp [seN] at hx
  have hL : Hid (∀ i, (zAt l i).ks.length ≤ 4398046511104) := Lib.hid fun i => by
    by_cases hi : i < n
    · exact hlen i _ (hz i hi)
    · rw [hz' i hi]; simp [seN]
  have hD : Hid (∀ p q, p ≠ q → Dis (zAt l p).A (zAt l q).A) := Lib.hid fun p q hpq => by
    by_cases hp : p < n
    · by_cases hq : q < n
      · exact h.dis p q _ _ hpq (hz p hp) (hz q hq)
      · rw [hz' q hq]; intro k _ h2; cases h2
    · rw [hz' p hp]; intro k h1; cases h1
  have hDL : Hid (∀ j, Dis A (zAt l j).A) := Lib.hid fun j => own_unlikeQ h.row (hown j) (by decide)
  have hZ : Hid (∀ q j, blockOf (zAt l q).A = some j → j < w.heap.size) := Lib.hid fun q j hj => ((hown q).lt j hj).2
  have h00 : Hid (∀ i ad, (zAt l i).A = some ad → ∃ b, ad = ⟨b, 0, none⟩) := Lib.hid fun i ad had => by
    rcases (hown i).2 with ⟨hv, _⟩ | ⟨g, cap, cur, hv, _⟩
    · injection hv with h1
      rw [had] at h1
      cases h1
    · injection hv with h1
      rw [had] at h1
      exact ⟨g, by injection h1⟩
  have h0 : Hid (Sp1 l A c t w 0 0 w) := Lib.hid ⟨h.row.base (Nat.zero_le _), fun j => by rw [curK_zero]; exact hown j, Upd.refl _ _⟩
  have hn' := Lib.hid hn
  have hi32 : Hid ((Try.prog.info? 29).map (·.size) = some 32) := Lib.hid (by kernel_rfl)
  have hi3 : Hid ((Try.prog.info? 85).map (·.size) = some 3) := Lib.hid (by kernel_rfl)
  have hwt : IntKind.u8.wrap (t : Int) = (t : Int) := by rw [IntKind.wrap_u8]; omega
  clear h hz hz' hown hlen hn
  go_enter Try.func44, Try.ntmps44
  go_wp2_with fail
  go_loopw [5] (fun iv wr => ∃ i : Nat, i ≤ n ∧ iv = .int .i64 (i : Int) ∧ Hid (Sp1 l A c t w i 0 wr)) (fun iv _ => n - (intOf iv).toNat)
  case atStart => exact ⟨0, by omega, rfl, h0⟩
  case round =>
    clear h0
    obtain ⟨i, hi, rfl, hW⟩ := hrel
    by_cases hlt : i < n
    · have hLi := hL.out i
      go_wp2_with fail
      go_loopw [6] (fun kv wr => ∃ k : Nat, k ≤ (zAt l i).ks.length ∧ kv = .int .i64 (k : Int) ∧ Hid (Sp1 l A c t w i k wr)) (fun kv _ => (zAt l i).ks.length - (intOf kv).toNat)
      case atStart => exact ⟨0, by omega, rfl, hW⟩
      case round =>
        clear hW
        obtain ⟨k, hk, rfl, hW⟩ := hrel
        obtain ⟨b, off, rfl, c2⟩ := rowE_at (by have := hW.out.row; rwa [hn'.out] at this) hn'.out (zAt_get (l := l) (i := i) (by rw [hn'.out]; exact hlt))
        by_cases hkl : k < (zAt l i).ks.length
        · obtain ⟨g, hg⟩ := (hW.out.own i).head (by omega)
          have hnext := Lib.hid (hW.out.put hkl hg (fun j hj => hD.out j i hj) h32.out)
          have hth : Hid (wr.there g (k * 32) 32) := Lib.hid (own_there (by have := hW.out.own i; rwa [hg] at this) (by omega))
          have hwi : IntKind.u8.wrap (i : Int) = (i : Int) := by rw [IntKind.wrap_u8]; omega
          have hbld := Lib.hid (bldM1 i t)
          have hm32 := Lib.hid (mk1_len i t)
          obtain ⟨m1, hm1⟩ : ∃ m1, mk1 i t = m1 := ⟨_, rfl⟩
          rw [hm1] at hnext hbld hm32
          have hms : Hid ((u8s m1).toArray.size = 32) := Lib.hid (by simp [u8s, hm32.out])
          rw [hg] at c2
          clear hm1 hg
          generalize (zAt l i).ks.length = L at hk hkl hLi c2 ⊢
          generalize (zAt l i).c = cz at c2 ⊢
          go_wp2_with (first
            | (refine wpList_blN rfl 29 _ rfl #[(29, .int .u8 1), (30, .int .u8 (i : Int)), (31, .int .u8 (t : Int))] (by rw [List.map_toArray]; rfl) _ (fun W => hbld.out W) ?_)
            | (refine wpList_store_mid rfl 29 _ _ rfl g (k * 32) (u8s m1).toArray rfl rfl (by rw [hms.out]; exact hth.out) (by rw [hms.out]; exact hi32.out) (all_oneCell_toArray u8s_one) ?_
               simp only [List.toList_toArray]))
          go_roundw
          case rel => exact ⟨k + 1, by omega, by go_num, hnext⟩
          case measure => simp [intOf]; omega
        · obtain rfl : k = (zAt l i).ks.length := by omega
          have hnext := Lib.hid hW.out.next
          generalize (zAt l i).ks.length = L at hk hkl hLi c2 hW ⊢
          go_wp2_with fail
          go_roundw
          case rel => exact ⟨i + 1, by omega, by go_num, hnext⟩
          case measure => simp [intOf]; omega
    · obtain rfl : i = n := by omega
      have h2 := Lib.hid (hW.out.grow0 hn'.out (fun _ => (none, 0)) hD.out)
      clear hW
      go_wp2_with fail
      go_loopw [7, 8] (fun s iv wr => ∃ (q : Nat) (gs : Gs) (AG : Option Addr) (cG : Nat), q ≤ i ∧ iv = .int .i64 (q : Int) ∧ s = .slice AG q cG ∧ Hid (Sp2 l A c t w gs q 0 AG cG (zAt l q).A (zAt l q).c wr)) (fun _ iv _ => i - (intOf iv).toNat)
      case atStart => exact ⟨0, _, none, 0, by omega, rfl, rfl, h2⟩
      case round =>
        clear h2 hlt hi
        obtain ⟨q, gs, AG, cG, hq, rfl, rfl, hW⟩ := hrel
        by_cases hlt : q < i
        · obtain ⟨b, off, rfl, c2⟩ := rowE_at (by have := hW.out.row; rwa [hn'.out] at this) hn'.out (zAt_get (l := l) (i := q) (by rw [hn'.out]; exact hlt))
          have hLq := hL.out q
          go_wp2_with fail
          clear c2
          go_loopw [9, 10] (fun s kv wr => ∃ (k : Nat) (Ag : Option Addr) (cg M : Nat), k ≤ 20 ∧ kv = .int .i64 (k : Int) ∧ (zAt l q).ks.length + k = M ∧ s = .slice Ag M cg ∧ Hid (Sp2 l (some ⟨b, off, none⟩) c t w gs q k AG cG Ag cg wr)) (fun _ kv _ => 20 - (intOf kv).toNat)
          case atStart => exact ⟨0, _, _, (zAt l q).ks.length, by omega, rfl, rfl, rfl, hW⟩
          case round =>
            clear hW
            obtain ⟨k, Ag, cg, M, hk, rfl, hM, rfl, hW⟩ := hrel
            by_cases hk2 : k < 20
            · have hown := Lib.hid hW.out.cur
              rw [hM] at hown
              have hwq : IntKind.u8.wrap (q : Int) = (q : Int) := by rw [IntKind.wrap_u8]; omega
              have hbld := Lib.hid (bldM2 q t)
              have hm32 := mk2_len q t
              have hsn : Hid (rowsK (mkL q t (zAt l q).ks.length k) ++ (u8s (mk2 q t)).toArray.toList = rowsK (mkL q t (zAt l q).ks.length (k + 1))) := Lib.hid (by rw [mkL_succ, rowsK_append, rowsK_one])
              have hbu := Lib.hid (builtK (mk2 q t) hm32)
              obtain ⟨m2, hm2⟩ : ∃ m2, mk2 q t = m2 := ⟨_, rfl⟩
              rw [hm2] at hbld hsn hbu hm32
              have hms : Hid ((u8s m2).toArray.size = 32) := Lib.hid (by simp [u8s, hm32])
              have hone : Hid (∀ u ∈ (u8s m2).toArray.toList, u.oneCell' = true) := Lib.hid (fun u hu => u8s_one u (by simpa using hu))
              clear hm2
              go_wp2_with (first
                | (refine wpList_blN rfl 29 _ rfl #[(29, .int .u8 2), (30, .int .u8 (q : Int)), (31, .int .u8 (t : Int))] (by rw [List.map_toArray]; rfl) _ (fun W => hbld.out W) ?_)
                | (refine Great.wpList_buildSliceTo rfl 32 29 1 _ rfl _ rfl _ rfl Try.underlying32 (u8s m2).toArray (by rw [List.map_toArray]; exact hbu.out) ?_)
                | (at_builtin; refine wpList_app1 elK wr (u8s m2).toArray hms.out rfl _ _ rfl rfl hown.out rfl hone.out (by unfold maxLen; omega) (by omega) (Nat.zero_le _) (M + 1) rfl _ hsn.out ?_
                   intro A' c' w' hown' hat hb'
                   have hnx := Lib.hid (hW.out.grow hat (by
                     have e : (zAt l q).ks.length + (k + 1) = M + 1 := by omega
                     rw [e]
                     exact hown') hZ.out (h00.out q))
                   clear hown' hat hb'))
              go_roundw
              case rel => exact ⟨k + 1, A', c', M + 1, by omega, by go_num, by omega, rfl, hnx⟩
              case measure => simp [intOf]; omega
            · obtain rfl : k = 20 := by omega
              have hown := Lib.hid hW.out.lng
              have hsz := hW.out.upd.size
              go_wp2_with (at_builtin; refine wpList_app1 elLL wr #[_] rfl rfl _ _ rfl rfl hown.out rfl (by intro u hu; simp at hu; subst hu; rfl) (by unfold maxLen; omega) (by omega) hsz (q + 1) rfl _ rfl ?_
                           intro A' c' w' hown' hat hb'
                           rw [← hM] at hown'
                           obtain ⟨gs2, hnx⟩ := hW.out.done hat hown' hZ.out hD.out
                           have hnx' := Lib.hid hnx
                           clear hown' hat hb' hnx)
              go_roundw
              case rel => exact ⟨q + 1, gs2, A', c', by omega, by go_num, rfl, hnx'⟩
              case measure => simp [intOf]; omega
        · obtain rfl : i = q := by omega
          have h3 := Lib.hid (hW.out.look hn'.out hDL.out)
          clear hW
          go_wp2_with fail
          go_loopw [11] (fun iv wv => ∃ p : Nat, p ≤ i ∧ iv = .int .i64 (p : Int) ∧ Hid (Sp3 l A c t w gs AG cG p wv)) (fun iv _ => i - (intOf iv).toNat)
          case atStart => exact ⟨0, by omega, rfl, h3⟩
          case round =>
            clear h3
            obtain ⟨p, hp, rfl, hW⟩ := hrel
            obtain ⟨w5, hw5⟩ : ∃ v, v = wr := ⟨_, rfl⟩
            subst hw5
            by_cases hpn : p < i
            · obtain ⟨g, hgA⟩ := hW.out.row.head (by rw [hn'.out]; omega)
              subst hgA
              obtain ⟨b, off, e0, c2⟩ := hW.out.at_ hn'.out (Nat.le_refl _) hpn
              cases e0
              simp only [Nat.zero_add] at c2
              have hlg := hW.out.lng
              rw [hn'.out] at hlg
              obtain ⟨G, hG⟩ := hlg.head (by omega)
              have hlg2 := hlg
              rw [hG] at hlg2
              have cg0 : w5.cell? ⟨G, p, none⟩ = some (.slice (gs p).1 ((zAt l p).ks.length + 20) (gs p).2) := (hlg2.cell p (by omega)).trans (by simp [grL, hpn])
              clear hlg hlg2
              subst hG
              have hLp := hL.out p
              have hred := Lib.hid (hW.out.red p)
              have hro := Lib.hid (hW.out.gro p (by rw [hn'.out]; exact hpn))
              generalize (zAt l p).ks.length = L at c2 cg0 hLp hred hro
              generalize (zAt l p).A = Ap at c2 hred
              generalize (zAt l p).c = cz at c2
              generalize (gs p).1 = Aq at cg0 hro
              generalize (gs p).2 = cq at cg0 hro
              obtain ⟨M, hM⟩ : ∃ M, L + 20 = M := ⟨_, rfl⟩
              rw [hM] at cg0 hro
              have hM' := Lib.hid hM
              have hLM : L ≤ M := by omega
              have hMb : M ≤ 4398046511124 := by omega
              clear hM
              have ha2 : Hid (∀ W, DrS w5 W → W.cell? ⟨g, p * 3 + 2, none⟩ = some (.slice Ap L cz)) := Lib.hid fun W hW => by obtain ⟨m, rfl⟩ := hW; exact c2
              have hg0 : Hid (∀ W, DrS w5 W → W.cell? ⟨G, p, none⟩ = some (.slice Aq M cq)) := Lib.hid fun W hW => by obtain ⟨m, rfl⟩ := hW; exact cg0
              have hwp : Hid (IntKind.u8.wrap (p : Int) = (p : Int)) := Lib.hid (by rw [IntKind.wrap_u8]; omega)
              have hwt' := Lib.hid hwt
              have hbldm1 := Lib.hid (bldM1 p t)
              have hbldm2 := Lib.hid (bldM2 p t)
              have hmk1 := mk1_len p t
              have hmk2 := mk2_len p t
              have hat1 : Hid (∀ k, k < L → ∃ b f, Ap = some ⟨b, f, none⟩ ∧ w5.rangeAt b (f + k * 32) (u8s (mk1 p t))) := Lib.hid fun k hk => rdK_at hred.out (by rw [mkL_len]; rfl) mkL_32 (by rw [mkL_at _ _ _ _ _ (by omega), if_pos hk])
              have hat4 : Hid (∀ k, k < M → ∃ b f, Aq = some ⟨b, f, none⟩ ∧ w5.rangeAt b (f + k * 32) (u8s (if k < L then mk1 p t else mk2 p t))) := Lib.hid fun k hk => by
                obtain ⟨b, f, e, _, hr⟩ := ownK_at hro.out mkL_32 (j := k) (by rw [mkL_at _ _ _ _ _ (by have := hM'.out; omega)])
                exact ⟨b, f, e, hr⟩
              obtain ⟨m1, hm1⟩ : ∃ m1, mk1 p t = m1 := ⟨_, rfl⟩
              obtain ⟨m2, hm2⟩ : ∃ m2, mk2 p t = m2 := ⟨_, rfl⟩
              rw [hm1] at hbldm1 hmk1 hat1 hat4
              rw [hm2] at hbldm2 hmk2 hat4
              have hm132 : Hid ((u8s m1).length = 32) := Lib.hid (by simp [u8s, hmk1])
              have hm232 : Hid ((u8s m2).length = 32) := Lib.hid (by simp [u8s, hmk2])
              have hnem1 : Hid (∀ W, (binOp .neq 29 (.agg (u8s m1).toArray) (.agg (u8s m1).toArray)).run Try.prog W = .ok (.bool false) W) := Lib.hid fun W => by
                have := neK hmk1 hmk1 W
                simpa using this
              have hnem2 : Hid (∀ W, (binOp .neq 29 (.agg (u8s m2).toArray) (.agg (u8s m2).toArray)).run Try.prog W = .ok (.bool false) W) := Lib.hid fun W => by
                have := neK hmk2 hmk2 W
                simpa using this
              clear hm1 hm2 hmk1 hmk2 hred hro
              go_wp2_with fail
              clear c2 cg0
              go_loopw [13] (fun kv wv => ∃ k x : Nat, k ≤ M ∧ kv = .int .i64 (k : Int) ∧ wv = w5.drewN x) (fun kv _ => M - (intOf kv).toNat)
              case atStart => exact ⟨0, 0, by omega, rfl, rfl⟩
              case round =>
                obtain ⟨k, x2, hk, rfl, rfl⟩ := hrel
                have cg1 := hg0.out (w5.drewN x2) ⟨x2, rfl⟩
                have hd : Hid (DrS w5 (w5.drewN x2).drew) := Lib.hid ⟨x2 + 1, rfl⟩
                by_cases hkM : k < M
                · obtain ⟨b4, f4, rfl, hg4⟩ := hat4.out k hkM
                  by_cases hkL : k < L
                  · rw [if_pos hkL] at hg4
                    obtain ⟨b1, f1, rfl, hg1⟩ := hat1.out k hkL
                    have hr4 : Hid (∀ W, DrS w5 W → W.rangeAt b4 (f4 + k * 32) (u8s m1)) := Lib.hid fun W hW => by obtain ⟨m, rfl⟩ := hW; exact hg4
                    have hr1 : Hid (∀ W, DrS w5 W → W.rangeAt b1 (f1 + k * 32) (u8s m1)) := Lib.hid fun W hW => by obtain ⟨m, rfl⟩ := hW; exact hg1
                    have hkL' : decide (k < L) = true := decide_eq_true hkL
                    clear hg4 hg1
                    have hn1 := hnem1.out
                    have hn2 := hnem2.out
                    have hwp1 := hwp.out
                    have cc := ha2.out (w5.drewN x2) ⟨x2, rfl⟩
                    clear hd
                    go_wp2_with (first
                      | (refine wpList_load_mid_gQ (by rfl) 29 _ rfl b1 (f1 + k * 32) rfl (u8s m1) _ (hr1.out _ ⟨x2, rfl⟩) Try.underlying29 rfl (by rw [hm132.out]; exact hi32.out) ?_)
                      | (refine wpList_load_mid_gQ (by rfl) 29 _ rfl b4 (f4 + k * 32) rfl (u8s m1) _ (hr4.out _ ⟨x2, rfl⟩) Try.underlying29 rfl (by rw [hm132.out]; exact hi32.out) ?_)
                      | (refine wpList_bl_gQ (by rfl) 29 _ rfl #[(29, .int .u8 1), (30, .int .u8 (p : Int)), (31, .int .u8 (t : Int))] (by rw [List.map_toArray]; rfl) _ (fun W => hbldm1.out W) ?_))
                    go_roundw
                    case rel => exact ⟨k + 1, x2, by omega, by go_num, rfl⟩
                    case measure => simp [intOf]; omega
                  · rw [if_neg hkL] at hg4
                    have hr4 : Hid (∀ W, DrS w5 W → W.rangeAt b4 (f4 + k * 32) (u8s m2)) := Lib.hid fun W hW => by obtain ⟨m, rfl⟩ := hW; exact hg4
                    have hkL' : decide (k < L) = false := decide_eq_false hkL
                    have hkL2 : decide (L ≤ k) = true := decide_eq_true (by omega)
                    have hkL3 : L ≤ k := by omega
                    clear hg4
                    have hn1 := hnem1.out
                    have hn2 := hnem2.out
                    have hwp1 := hwp.out
                    have cc := ha2.out (w5.drewN x2) ⟨x2, rfl⟩
                    clear hd
                    go_wp2_with (first
                      | (refine wpList_load_mid_gQ (by rfl) 29 _ rfl b4 (f4 + k * 32) rfl (u8s m2) _ (hr4.out _ ⟨x2, rfl⟩) Try.underlying29 rfl (by rw [hm232.out]; exact hi32.out) ?_)
                      | (refine wpList_bl_gQ (by rfl) 29 _ rfl #[(29, .int .u8 2), (30, .int .u8 (p : Int)), (31, .int .u8 (t : Int))] (by rw [List.map_toArray]; rfl) _ (fun W => hbldm2.out W) ?_))
                    go_roundw
                    case rel => exact ⟨k + 1, x2, by omega, by go_num, rfl⟩
                    case measure => simp [intOf]; omega
                · obtain rfl : k = M := by omega
                  have hp3 := Lib.hid ((hW.out.drew x2).put (by rw [hn'.out]; exact hpn) rfl)
                  have hth : Hid ((w5.drewN x2).there g (p * 3) 3) := Lib.hid (own_there (by have := (hW.out.drew x2).row; rwa [hn'.out] at this) (by omega))
                  have hbse := Lib.hid (bldSE (-(t : Int)))
                  have e3 : Hid (#[Value.int .i64 (-(t : Int)), .int .i64 0, .slice none 0 0].toList = blankE t) := Lib.hid rfl
                  clear hd
                  go_wp2_with (first
                    | (refine wpList_blN rfl 85 _ rfl #[(0, .int .i64 (-(t : Int)))] (by rw [List.map_toArray]; rfl) _ (fun W => hbse.out W) ?_)
                    | (refine wpList_store_mid rfl 85 _ _ rfl g (p * 3) #[.int .i64 (-(t : Int)), .int .i64 0, .slice none 0 0] rfl rfl hth.out hi3.out (by simp [Value.oneCell']) ?_
                       rw [e3.out]))

                  go_roundw
                  case rel => exact ⟨p + 1, by omega, by go_num, hp3⟩
                  case measure => simp [intOf]; omega
            · obtain rfl : p = i := by omega
              have hro := hW.out.row
              rw [hn'.out] at hro
              have hsn : Hid (rowB t p l ++ #[Value.int .i64 99, .int .i64 0, .slice none 0 0].toList = rowB t p l ++ [Value.int .i64 99, .int .i64 0, .slice none 0 0]) := Lib.hid rfl
              have hrl : Hid ((rowB t p l).length = p * 3) := Lib.hid (by rw [rowB_length (by rw [hn'.out]; exact Nat.le_refl _), hn'.out])
              have hu5 := Lib.hid hW.out.upd
              have hbse := Lib.hid (bldSE 99)
              have hro' := Lib.hid hro
              obtain ⟨M, hM⟩ : ∃ M, p + 1 = M := ⟨_, rfl⟩
              have hMw : wrap64 ((M : Int) - 1) = (p : Int) := by unfold wrap64; omega
              have hMp : (p : Int) < (M : Int) := by omega
              have hp0 : (0 : Int) ≤ (p : Int) := by omega
              clear hW hro
              go_wp2_with (first
                | (refine wpList_blN rfl 85 _ rfl #[(0, .int .i64 99)] (by rw [List.map_toArray]; rfl) _ (fun W => hbse.out W) ?_)
                | (at_builtin; refine wpList_app1 elSes w5 #[.int .i64 99, .int .i64 0, .slice none 0 0] rfl rfl _ _ rfl rfl hro'.out rfl (by intro u hu; simp at hu; rcases hu with rfl | rfl | rfl <;> rfl) (by unfold maxLen; omega) (by omega) (Nat.zero_le _) M hM _ hsn.out ?_
                   intro A6 c6 w6 o6 at6 b6
                   have hu6 := Lib.hid (app_upd (B := 0) (e := 0) (size := 0) (n := 0) (c := 0) (xs := []) hu5.out at6 (fun b hb _ => .inl hb))
                   obtain ⟨b6', f6, rfl, _, hc6⟩ := o6.rd (by omega)
                   have c99 : w6.cell? ⟨b6', f6 + (M - 1) * 3, none⟩ = some (.int .i64 99) := by rw [show M - 1 = p by omega]; exact (hc6 (p * 3) (by omega)).trans (by simp [hrl.out])
                   clear o6 at6 b6 hc6))
              go_ret
              exact ⟨rfl, hu6.out⟩
end Go.Proofs.Ytgjokkjmljdmbaa

/- BloomNever's walk, where the filters may be. (Printed by tools/gennev.py.) -/
import Derived.Test.YtlghgfnkckaebaaWNev
import Derived.Test.YtlghgfnkckaebaaWOpB
import Derived.Deep.CutRange
namespace Go.Proofs.Ytlghgfnkckaebaa
open Go.RowKit
set_option linter.unusedSimpArgs false
set_option linter.unusedVariables false

section
variable {P : Program}
theorem wpList_load_mid_g {ops : Array Oper} {rest : List Oper} {op : Oper} {a : Act} {w : World} {Q : Exit → Act → World → Prop} (hw : Region.wanted op (yielded ops a.tmps) = true) (ty : TypeId) (x : Operand) (ho : op.op = .load ty x)
    (b o : Nat) (hx : a.eval x = .pointer (some ⟨b, o, none⟩)) (cs : List Value) (d : TypeDesc) (hc : w.rangeAt b o cs)
    (hu : P.underlying ty = some d) (hd : d.isRow = true) (hi : (P.info? ty).map (·.size) = some cs.length)
    (h : wpList P ops Q rest (a.put op.dst (.agg cs.toArray)) w) : wpList P ops Q (op :: rest) a w :=
  wpList_step fun K hK => by
    rw [if_pos hw]
    exact wp_load_mid ty x ho b o hx cs d hc hu hd hi (hK _ _ h)
end
theorem Fr.none_below {w w' : World} (h : Fr (fun _ => False) w w') : Below w.heap.size w w' := h.below (Nat.le_refl _) (fun _ _ q => q)
def addL (h : Nat) (l k : List Nat) : List Nat := (addQ (k1Q k) (k2Q k) (64 * l.length) l h).1
theorem Bits.addL {h n : Nat} {l : List Nat} {K K' : List Nat → Prop} (b : Bits h n l K) (k : List Nat) (e : ∀ x, (K x ∨ x = k) ↔ K' x) : Bits h n (Go.Proofs.Ytlghgfnkckaebaa.addL h l k) K' := (b.add k).congr e
section
variable {w0 w : World} {h gf Af cf gg Ag cg gm Am cm : Nat} {lf lg lm : List Nat}
def AddT (w0 : World) (h gf Af cf gg Ag cg gm Am cm : Nat) (lf lg lm : List Nat) (e : Ending) (w' : World) : Prop := (∃ b, e = .returned (.bool b)) ∧ Hid (Tri w0 w' h gf Af cf gg Ag cg gm Am cm lf lg lm) ∧ Hid (Below w0.heap.size w0 w')
theorem addF_any (t : Hid (Tri w0 w h gf Af cf gg Ag cg gm Am cm lf lg lm)) (kb : List Nat) (kv : List Value) (hkv : Hid (u8s kb = kv)) (hk : Hid (kb.length = 32 ∧ ∀ x ∈ kb, x < 256)) : Calls Try.prog 24 #[.pointer (some ⟨gf, 0, none⟩), .agg kv.toArray] w (AddT w0 h gf Af cf gg Ag cg gm Am cm (addL h lf kb) lg lm) := by
  have := add_any t.out.f kb hk.out.1 hk.out.2
  rw [hkv.out] at this
  refine this.mono ?_
  rintro e w' ⟨he, f, r⟩
  have t' := t.out.setF f r
  exact ⟨⟨_, he⟩, Lib.hid t', Lib.hid t'.below⟩
theorem addG_any (t : Hid (Tri w0 w h gf Af cf gg Ag cg gm Am cm lf lg lm)) (kb : List Nat) (kv : List Value) (hkv : Hid (u8s kb = kv)) (hk : Hid (kb.length = 32 ∧ ∀ x ∈ kb, x < 256)) : Calls Try.prog 24 #[.pointer (some ⟨gg, 0, none⟩), .agg kv.toArray] w (AddT w0 h gf Af cf gg Ag cg gm Am cm lf (addL h lg kb) lm) := by
  have := add_any t.out.g kb hk.out.1 hk.out.2
  rw [hkv.out] at this
  refine this.mono ?_
  rintro e w' ⟨he, f, r⟩
  have t' := t.out.setG f r
  exact ⟨⟨_, he⟩, Lib.hid t', Lib.hid t'.below⟩
theorem addM_any (t : Hid (Tri w0 w h gf Af cf gg Ag cg gm Am cm lf lg lm)) (kb : List Nat) (kv : List Value) (hkv : Hid (u8s kb = kv)) (hk : Hid (kb.length = 32 ∧ ∀ x ∈ kb, x < 256)) : Calls Try.prog 24 #[.pointer (some ⟨gm, 0, none⟩), .agg kv.toArray] w (AddT w0 h gf Af cf gg Ag cg gm Am cm lf lg (addL h lm kb)) := by
  have := add_any t.out.m kb hk.out.1 hk.out.2
  rw [hkv.out] at this
  refine this.mono ?_
  rintro e w' ⟨he, f, r⟩
  have t' := t.out.setM f r
  exact ⟨⟨_, he⟩, Lib.hid t', Lib.hid t'.below⟩
end
theorem hasT_any {w : World} {B g c h A0 : Nat} {l : List Nat} (f : Flt w B g (some ⟨A0, 0, none⟩) c l h) (kb : List Nat) (kv : List Value) (hkv : Hid (u8s kb = kv)) (hk : Hid (kb.length = 32 ∧ ∀ x ∈ kb, x < 256)) (ht : hasQ (k1Q kb) (k2Q kb) (64 * l.length) l h = true) :
    Calls Try.prog 26 #[.pointer (some ⟨g, 0, none⟩), .agg kv.toArray] w fun e w' => e = .returned (.bool true) ∧ Below w.heap.size w w' := by
  have := has_any f kb hk.out.1 hk.out.2
  rw [hkv.out] at this
  refine this.mono ?_
  rintro e w' ⟨he, _, r⟩
  exact ⟨by rw [he, ht], r.none_below⟩
theorem popL_zero : ∀ n, popL (List.replicate n 0) = 0
  | 0 => rfl
  | n + 1 => by
    rw [List.replicate_succ]
    show Lib.onesCount 0 + popL (List.replicate n 0) = 0
    rw [popL_zero n]
    exact popAux_zero 64
theorem ord_gt {r : Nat} (h : r ≤ Fp.one) (hp : 0 < r) : (FloatKind.f64.format.order r 0 == some .gt) = true := by
  have : Ieee.double.order r 0 = some (compare r 0) := Fp.order_pos (by have : Fp.one = 4607182418800017408 := rfl; omega) (by omega)
  show (Ieee.double.order r 0 == some .gt) = true
  rw [this, Nat.compare_eq_gt.2 hp]
  rfl
theorem ord_ge {r s : Nat} (hr : r ≤ Fp.one) (hs : s ≤ r) : (FloatKind.f64.format.order r s == some .gt || FloatKind.f64.format.order r s == some .eq) = true := by
  have h1 : Fp.one = 4607182418800017408 := rfl
  have : Ieee.double.order r s = some (compare r s) := Fp.order_pos (by omega) (by omega)
  show (Ieee.double.order r s == some .gt || Ieee.double.order r s == some .eq) = true
  rw [this]
  rcases Nat.lt_or_ge s r with h0 | h0
  · rw [Nat.compare_eq_gt.2 h0]; rfl
  · rw [Nat.compare_eq_eq.2 (by omega)]; rfl
set_option maxRecDepth 20000 in
set_option maxHeartbeats 8000000 in
theorem never_yes (w : World) (n H : Nat) (A1 A2 A3 : Option Addr) (n1 c1 n2 c2 n3 c3 : Nat) (ks1 ks2 ks3 : Nat → List Nat) (hn : 1 ≤ n) (hn2 : n ≤ 256) (hH1 : 1 ≤ H) (hH2 : H ≤ 16)
    (hk1 : KeyRow w A1 n1 ks1) (hk2 : KeyRow w A2 n2 ks2) (hk3 : KeyRow w A3 n3 ks3) (b1 : n1 ≤ 4398046510976) (b2 : n2 ≤ 4398046510976) (b3 : n3 ≤ 4398046510976) :
    Calls Try.prog 10 #[setV ((64 * n : Nat) : Int) (H : Int) A1 A2 A3 n1 c1 n2 c2 n3 c3] w fun e w' => e = .returned (.bool true) ∧ Below w.heap.size w w' := by
  obtain ⟨wb, hwb⟩ : ∃ wb, w.alloc (.cells #[.int .i64 ((64 * n : Nat) : Int), .int .i64 (H : Int), .slice A1 n1 c1, .slice A2 n2 c2, .slice A3 n3 c3] 60) = wb := ⟨_, rfl⟩
  have hB : Hid (Below w.heap.size w wb) := Lib.hid (by rw [← hwb]; exact (Below.refl _ _).alloc (Nat.le_refl _) _)
  have hwb' := Lib.hid hwb
  have hK1 := Lib.hid hk1
  have hK2 := Lib.hid hk2
  have hK3 := Lib.hid hk3
  have hi32 : Hid ((Try.prog.info? 51).map (·.size) = some 32) := Lib.hid (by kernel_rfl)
  have hnew := Lib.hid (fun W => fnew_yes n H hH1 hH2 hn (by omega) W)
  obtain ⟨z, hz⟩ : ∃ z, List.replicate n 0 = z := ⟨_, rfl⟩
  have hz0 : Hid (Bits H n z (fun _ => False)) := Lib.hid (hz ▸ Bits.zero H n)
  have hzp : Hid (popL z = 0) := Lib.hid (hz ▸ popL_zero n)
  rw [hz] at hnew
  have hm := Lib.hid (fun W => refMay_any ((64 * n : Nat) : Int) (H : Int) W)
  rw [decide_eq_true (show shp ((64 * n : Nat) : Int) (H : Int) from ⟨by omega, by omega, by omega, by omega, by omega⟩)] at hm
  have hH1' := Lib.hid hH1
  have hH2' := Lib.hid hH2
  have hn' := Lib.hid hn
  have hn2' := Lib.hid hn2
  obtain ⟨N, hN⟩ : ∃ N, 64 * n = N := ⟨_, rfl⟩
  have hNb : N ≤ 16384 := by omega
  have hN0 : 64 ≤ N := by omega
  rw [hN] at hnew hm hwb hwb' ⊢
  clear hk1 hk2 hk3 hz hH1 hH2 hn hn2 hN hwb
  unfold setV
  go_enter Try.func10, Try.ntmps10
  go_wp2_with (first
    | (go_at_call 23
       have q3 := fB3.out
       refine (hnew.out _).mono ?_
       rintro e w4 ⟨⟨gm, Am0, cm, rfl, hf⟩, hb⟩
       obtain ⟨Am, eA, hAm, _⟩ := hf.at
       subst eA
       have htri : Hid (Tri w w4 H gf Af cf gg Ag cg gm Am cm z z z) := Lib.hid ⟨fA3.out.below hb, q3.below hb, hf.base hS3.out.size, hab3.out, by have := fA3.out.lt2; omega, by have := q3.lt2; omega, hS3.out.trans (hb.mono hS3.out.size)⟩
       have hon : Hid (Below w.heap.size w w4) := Lib.hid htri.out.below
       have hones := Lib.hid (ones_any htri.out.f)
       rw [hzp.out] at hones
       clear q3 hf hb hAm fA3 fB3 hS3 hab3)
    | (go_at_call 23
       have q2 := fA2.out
       refine (hnew.out _).mono ?_
       rintro e w3 ⟨⟨gg, Ag0, cg, rfl, hf⟩, hb⟩
       obtain ⟨Ag, eA, hAg, _⟩ := hf.at
       subst eA
       have fA3 := Lib.hid (q2.below hb)
       have fB3 := Lib.hid (hf.base hS2.out.size)
       have hab3 : Hid (Af ≠ Ag) := Lib.hid (by have := q2.lt2; omega)
       have hS3 := Lib.hid (hS2.out.trans (hb.mono hS2.out.size))
       clear q2 hf hb hAg fA2 hS2)
    | (go_at_call 23
       rw [hwb'.out]
       refine (hnew.out _).mono ?_
       rintro e w2 ⟨⟨gf, Af0, cf, rfl, hf⟩, hb⟩
       obtain ⟨Af, eA, hAf, _⟩ := hf.at
       subst eA
       have fA2 := Lib.hid (hf.base hB.out.size)
       have hS2 := Lib.hid (hB.out.trans (hb.mono hB.out.size))
       clear hf hb hAf)
    | (go_at_call 27; refine (hm.out _).mono ?_; rintro e w5 ⟨rfl, rfl⟩)
    | (go_at_call 28; refine hones.out.mono ?_; rintro e w5 ⟨rfl, rfl⟩; clear hones))
  clear hnew hm hB hwb' hzp
  have on_ : Hid (∀ {W W'}, Below w.heap.size w W → Below W.heap.size W W' → Below w.heap.size w W') := Lib.hid fun a b => a.trans (b.mono a.size)
  go_loopw [14] (fun iv wr => ∃ (i : Nat) (lf : List Nat), i ≤ n1 ∧ iv = .int .i64 (i : Int) ∧ Hid (Bits H n lf (fun k => ∃ t, t < i ∧ ks1 t = k)) ∧ Hid (Tri w wr H gf Af cf gg Ag cg gm Am cm lf z z) ∧ Hid (Below w.heap.size w wr)) (fun iv _ => n1 - (intOf iv).toNat)
  case atStart => exact ⟨0, z, by omega, rfl, Lib.hid (hz0.out.congr fun k => ⟨fun q => q.elim, fun ⟨t, h, _⟩ => by omega⟩), htri, hon⟩
  case round =>
    clear htri hon
    obtain ⟨i, lf, hi, rfl, hbf, htri, hon⟩ := hrel
    by_cases hlt : i < n1
    · obtain ⟨bb1, of1, rfl, hbb1, hrr1⟩ := hK1.out.row (by omega)
      have hb1 := Lib.hid hbb1
      have hw1 := Lib.hid hrr1
      clear hbb1 hrr1
      obtain ⟨kb, hkb⟩ : ∃ kb, ks1 (i) = kb := ⟨_, rfl⟩
      have hke := Lib.hid hkb
      obtain ⟨kv, hkv⟩ : ∃ kv, u8s kb = kv := ⟨_, rfl⟩
      have he := Lib.hid hkv
      have hk : Hid (kb.length = 32 ∧ ∀ x ∈ kb, x < 256) := Lib.hid (hkb ▸ ⟨hK1.out.len _ (by omega), hK1.out.lt _ (by omega)⟩)
      have hl : Hid (kv.length = 32) := Lib.hid (by rw [← hkv, u8s_length]; exact hk.out.1)
      have hr : Hid (∀ W, Below w.heap.size w W → W.rangeAt bb1 (of1 + i * 32) kv) := Lib.hid fun W hb jj v hv => (hb.cell (p := ⟨bb1, of1 + i * 32 + jj, none⟩) hb1.out).trans (hw1.out (i) (by omega) jj v (by rw [hkb, hkv]; exact hv))
      clear hkb hkv
      go_wp2_with (first
        | (refine wpList_load_mid_g rfl 51 _ rfl bb1 (of1 + i * 32) rfl kv _ (hr.out _ (show Hid (Below w.heap.size w _) by assumption).out) Try.underlying51 rfl (by rw [hl.out]; exact hi32.out) ?_)
        | (go_at_call 24; refine (addF_any htri _ _ he hk).mono ?_; rintro e wt5 ⟨⟨vt5, rfl⟩, t5, ont5⟩; clear htri))
      go_roundw
      case rel => exact ⟨i + 1, _, by omega, by go_num, Lib.hid (hbf.out.addL kb fun x => ⟨fun q => q.elim (fun ⟨t, h1, h2⟩ => ⟨t, by omega, h2⟩) (fun q => ⟨i, by omega, hke.out.trans q.symm⟩), fun ⟨t, h1, h2⟩ => (Nat.lt_or_ge t i).elim (fun h => .inl ⟨t, h, h2⟩) (fun h => .inr (by rw [← h2, ← hke.out, show t = i by omega]))⟩), t5, ont5⟩
      case measure => simp [intOf]; omega
    · go_wp2_with fail
      have hbf1 : Hid (Bits H n lf (fun k => ∃ t, t < n1 ∧ ks1 t = k)) := Lib.hid (hbf.out.congr fun k => by rw [show i = n1 by omega])
      clear hbf
      go_loopw [15] (fun iv wr => ∃ (i2 : Nat) (lg lm : List Nat), i2 ≤ n2 ∧ iv = .int .i64 (i2 : Int) ∧ Hid (Bits H n lg (fun k => ∃ t, t < i2 ∧ ks2 t = k)) ∧ Hid (Bits H n lm (fun k => ∃ t, t < i2 ∧ ks2 t = k)) ∧ Hid (Tri w wr H gf Af cf gg Ag cg gm Am cm lf lg lm) ∧ Hid (Below w.heap.size w wr)) (fun iv _ => n2 - (intOf iv).toNat)
      case atStart => exact ⟨0, z, z, by omega, rfl, Lib.hid (hz0.out.congr fun k => ⟨fun q => q.elim, fun ⟨t, h, _⟩ => by omega⟩), Lib.hid (hz0.out.congr fun k => ⟨fun q => q.elim, fun ⟨t, h, _⟩ => by omega⟩), htri, hon⟩
      case round =>
        clear htri hon
        obtain ⟨i2, lg, lm, hi2, rfl, hbg, hbm, htri, hon⟩ := hrel
        by_cases hlt2 : i2 < n2
        · obtain ⟨bb2, of2, rfl, hbb2, hrr2⟩ := hK2.out.row (by omega)
          have hb2 := Lib.hid hbb2
          have hw2 := Lib.hid hrr2
          clear hbb2 hrr2
          obtain ⟨kb, hkb⟩ : ∃ kb, ks2 (i2) = kb := ⟨_, rfl⟩
          have hke := Lib.hid hkb
          obtain ⟨kv, hkv⟩ : ∃ kv, u8s kb = kv := ⟨_, rfl⟩
          have he := Lib.hid hkv
          have hk : Hid (kb.length = 32 ∧ ∀ x ∈ kb, x < 256) := Lib.hid (hkb ▸ ⟨hK2.out.len _ (by omega), hK2.out.lt _ (by omega)⟩)
          have hl : Hid (kv.length = 32) := Lib.hid (by rw [← hkv, u8s_length]; exact hk.out.1)
          have hr : Hid (∀ W, Below w.heap.size w W → W.rangeAt bb2 (of2 + i2 * 32) kv) := Lib.hid fun W hb jj v hv => (hb.cell (p := ⟨bb2, of2 + i2 * 32 + jj, none⟩) hb2.out).trans (hw2.out (i2) (by omega) jj v (by rw [hkb, hkv]; exact hv))
          clear hkb hkv
          go_wp2_with (first
            | (refine wpList_load_mid_g rfl 51 _ rfl bb2 (of2 + i2 * 32) rfl kv _ (hr.out _ (show Hid (Below w.heap.size w _) by assumption).out) Try.underlying51 rfl (by rw [hl.out]; exact hi32.out) ?_)
            | (go_at_call 24; refine (addG_any htri _ _ he hk).mono ?_; rintro e wt5 ⟨⟨vt5, rfl⟩, t5, ont5⟩; clear htri)
            | (go_at_call 24; refine (addM_any t5 _ _ he hk).mono ?_; rintro e wt6 ⟨⟨vt6, rfl⟩, t6, ont6⟩; clear t5))
          have hset : Hid (∀ x, ((∃ t, t < i2 ∧ ks2 t = x) ∨ x = kb) ↔ ∃ t, t < i2 + 1 ∧ ks2 t = x) := Lib.hid fun x => ⟨fun q => q.elim (fun ⟨t, h1, h2⟩ => ⟨t, by omega, h2⟩) (fun q => ⟨i2, by omega, hke.out.trans q.symm⟩), fun ⟨t, h1, h2⟩ => (Nat.lt_or_ge t i2).elim (fun h => .inl ⟨t, h, h2⟩) (fun h => .inr (by rw [← h2, ← hke.out, show t = i2 by omega]))⟩
          go_roundw
          case rel => exact ⟨i2 + 1, _, _, by omega, by go_num, Lib.hid (hbg.out.addL kb hset.out), Lib.hid (hbm.out.addL kb hset.out), t6, ont6⟩
          case measure => simp [intOf]; omega
        · go_wp2_with fail
          have hbg1 : Hid (Bits H n lg (fun k => ∃ t, t < n2 ∧ ks2 t = k)) := Lib.hid (hbg.out.congr fun k => by rw [show i2 = n2 by omega])
          have hbm1 : Hid (Bits H n lm (fun k => ∃ t, t < n2 ∧ ks2 t = k)) := Lib.hid (hbm.out.congr fun k => by rw [show i2 = n2 by omega])
          clear hbg hbm
          go_loopw [16] (fun iv wr => ∃ (q : Int) (m j : Nat) (pf pg pm : List Nat), m + j = n3 ∧ q = (m : Int) - 1 ∧ iv = .int .i64 q ∧ Hid (Bits H n pf (fun k => (∃ t, t < n1 ∧ ks1 t = k) ∨ ∃ t, t < n3 ∧ m ≤ t ∧ ks3 t = k)) ∧ Hid (Bits H n pg (fun k => (∃ t, t < n2 ∧ ks2 t = k) ∨ ∃ t, t < j ∧ ks3 t = k)) ∧ Hid (Bits H n pm (fun k => (∃ t, t < n2 ∧ ks2 t = k) ∨ ∃ t, t < n3 ∧ m ≤ t ∧ ks3 t = k)) ∧ Hid (Tri w wr H gf Af cf gg Ag cg gm Am cm pf pg pm) ∧ Hid (Below w.heap.size w wr)) (fun iv _ => (intOf iv + 1).toNat)
          case atStart => exact ⟨_, n3, 0, lf, lg, lm, by omega, rfl, by go_num, Lib.hid (hbf1.out.congr fun k => ⟨fun q => .inl q, fun q => q.elim (fun q => q) (fun ⟨t, h1, h2, _⟩ => by omega)⟩), Lib.hid (hbg1.out.congr fun k => ⟨fun q => .inl q, fun q => q.elim (fun q => q) (fun ⟨t, h1, _⟩ => by omega)⟩), Lib.hid (hbm1.out.congr fun k => ⟨fun q => .inl q, fun q => q.elim (fun q => q) (fun ⟨t, h1, h2, _⟩ => by omega)⟩), htri, hon⟩
          case round =>
            clear htri hon hbf1 hbg1 hbm1
            obtain ⟨q, m, j, pf, pg, pm, hmj, hq, rfl, hbf, hbg, hbm, htri, hon⟩ := hrel
            by_cases hlt3 : 0 < m
            · obtain ⟨m', rfl⟩ : ∃ m', m = m' + 1 := ⟨m - 1, by omega⟩
              obtain rfl : q = (m' : Int) := by omega
              have hix : (n3 : Int) - 1 - (m' : Int) = (j : Int) := by omega
              have hj3 : j < n3 := by omega
              have hm3 : m' < n3 := by omega
              clear hq
              obtain ⟨bb3, of3, rfl, hbb3, hrr3⟩ := hK3.out.row (by omega)
              have hb3 := Lib.hid hbb3
              have hw3 := Lib.hid hrr3
              clear hbb3 hrr3
              obtain ⟨kb, hkb⟩ : ∃ kb, ks3 (m') = kb := ⟨_, rfl⟩
              have hke := Lib.hid hkb
              obtain ⟨kv, hkv⟩ : ∃ kv, u8s kb = kv := ⟨_, rfl⟩
              have he := Lib.hid hkv
              have hk : Hid (kb.length = 32 ∧ ∀ x ∈ kb, x < 256) := Lib.hid (hkb ▸ ⟨hK3.out.len _ (by omega), hK3.out.lt _ (by omega)⟩)
              have hl : Hid (kv.length = 32) := Lib.hid (by rw [← hkv, u8s_length]; exact hk.out.1)
              have hr : Hid (∀ W, Below w.heap.size w W → W.rangeAt bb3 (of3 + m' * 32) kv) := Lib.hid fun W hb jj v hv => (hb.cell (p := ⟨bb3, of3 + m' * 32 + jj, none⟩) hb3.out).trans (hw3.out (m') (by omega) jj v (by rw [hkb, hkv]; exact hv))
              clear hkb hkv
              obtain ⟨kbj, hkbj⟩ : ∃ kb, ks3 (j) = kb := ⟨_, rfl⟩
              have hkej := Lib.hid hkbj
              obtain ⟨kvj, hkvj⟩ : ∃ kv, u8s kbj = kv := ⟨_, rfl⟩
              have hej := Lib.hid hkvj
              have hkj : Hid (kbj.length = 32 ∧ ∀ x ∈ kbj, x < 256) := Lib.hid (hkbj ▸ ⟨hK3.out.len _ (by omega), hK3.out.lt _ (by omega)⟩)
              have hlj : Hid (kvj.length = 32) := Lib.hid (by rw [← hkvj, u8s_length]; exact hkj.out.1)
              have hrj : Hid (∀ W, Below w.heap.size w W → W.rangeAt bb3 (of3 + j * 32) kvj) := Lib.hid fun W hb jj v hv => (hb.cell (p := ⟨bb3, of3 + j * 32 + jj, none⟩) hb3.out).trans (hw3.out (j) (by omega) jj v (by rw [hkbj, hkvj]; exact hv))
              clear hkbj hkvj
              go_wp2_with (first
                | (refine wpList_load_mid_g rfl 51 _ rfl bb3 (of3 + m' * 32) rfl kv _ (hr.out _ (show Hid (Below w.heap.size w _) by assumption).out) Try.underlying51 rfl (by rw [hl.out]; exact hi32.out) ?_)
                | (refine wpList_load_mid_g rfl 51 _ rfl bb3 (of3 + j * 32) rfl kvj _ (hrj.out _ (show Hid (Below w.heap.size w _) by assumption).out) Try.underlying51 rfl (by rw [hlj.out]; exact hi32.out) ?_)
                | (go_at_call 24; refine (addF_any htri _ _ he hk).mono ?_; rintro e wt5 ⟨⟨vt5, rfl⟩, t5, ont5⟩; clear htri)
                | (go_at_call 24; refine (addG_any t5 _ _ hej hkj).mono ?_; rintro e wt6 ⟨⟨vt6, rfl⟩, t6, ont6⟩; clear t5)
                | (go_at_call 24; refine (addM_any t6 _ _ he hk).mono ?_; rintro e wt7 ⟨⟨vt7, rfl⟩, t7, ont7⟩; clear t6))
              go_roundw
              case rel =>
                refine ⟨_, m', j + 1, _, _, _, by omega, rfl, by go_num, Lib.hid (hbf.out.addL kb fun x => ?_), Lib.hid (hbg.out.addL kbj fun x => ?_), Lib.hid (hbm.out.addL kb fun x => ?_), t7, ont7⟩
                · constructor
                  · rintro ((q | ⟨t, h1, h2, h3⟩) | q)
                    · exact .inl q
                    · exact .inr ⟨t, h1, by omega, h3⟩
                    · exact .inr ⟨m', hm3, Nat.le_refl _, hke.out.trans q.symm⟩
                  · rintro (q | ⟨t, h1, h2, h3⟩)
                    · exact .inl (.inl q)
                    · rcases Nat.lt_or_ge m' t with h | h
                      · exact .inl (.inr ⟨t, h1, h, h3⟩)
                      · exact .inr (by rw [← h3, ← hke.out, show t = m' by omega])
                · constructor
                  · rintro ((q | ⟨t, h1, h3⟩) | q)
                    · exact .inl q
                    · exact .inr ⟨t, by omega, h3⟩
                    · exact .inr ⟨j, by omega, hkej.out.trans q.symm⟩
                  · rintro (q | ⟨t, h1, h3⟩)
                    · exact .inl (.inl q)
                    · rcases Nat.lt_or_ge t j with h | h
                      · exact .inl (.inr ⟨t, h, h3⟩)
                      · exact .inr (by rw [← h3, ← hkej.out, show t = j by omega])
                · constructor
                  · rintro ((q | ⟨t, h1, h2, h3⟩) | q)
                    · exact .inl q
                    · exact .inr ⟨t, h1, by omega, h3⟩
                    · exact .inr ⟨m', hm3, Nat.le_refl _, hke.out.trans q.symm⟩
                  · rintro (q | ⟨t, h1, h2, h3⟩)
                    · exact .inl (.inl q)
                    · rcases Nat.lt_or_ge m' t with h | h
                      · exact .inl (.inr ⟨t, h1, h, h3⟩)
                      · exact .inr (by rw [← h3, ← hke.out, show t = m' by omega])
              case measure => simp [intOf]
            · obtain rfl : m = 0 := by omega
              obtain rfl : q = -1 := by omega
              have hbf3 : Hid (Bits H n pf (fun k => (∃ t, t < n1 ∧ ks1 t = k) ∨ ∃ t, t < n3 ∧ ks3 t = k)) := Lib.hid (hbf.out.congr fun k => or_congr Iff.rfl ⟨fun ⟨t, h1, _, h3⟩ => ⟨t, h1, h3⟩, fun ⟨t, h1, h3⟩ => ⟨t, h1, Nat.zero_le _, h3⟩⟩)
              have hbg3 : Hid (Bits H n pg (fun k => (∃ t, t < n2 ∧ ks2 t = k) ∨ ∃ t, t < n3 ∧ ks3 t = k)) := Lib.hid (hbg.out.congr fun k => by rw [show j = n3 by omega])
              have hbm3 : Hid (Bits H n pm (fun k => (∃ t, t < n2 ∧ ks2 t = k) ∨ ∃ t, t < n3 ∧ ks3 t = k)) := Lib.hid (hbm.out.congr fun k => or_congr Iff.rfl ⟨fun ⟨t, h1, _, h3⟩ => ⟨t, h1, h3⟩, fun ⟨t, h1, h3⟩ => ⟨t, h1, Nat.zero_le _, h3⟩⟩)
              have hsame : Hid (pm = pg) := Lib.hid (hbm3.out.same hbg3.out htri.out.m.lt htri.out.g.lt)
              obtain rfl := hsame.out
              clear hbf hbg hbm hmj hlt3 hq hsame
              go_upto_region 30 with fail
              go_cut [162] from 144 to 163 (fun c wx => c = .bool false ∧ Hid (Tri w wx H gf Af cf gg Ag cg gm Am cm pf (joinQ pm pf) (meetQ pm pf)) ∧ Hid (Below w.heap.size w wx))
              case first =>
                obtain ⟨L, hL⟩ : ∃ L, Hid (fBy H pm = L) := ⟨_, Lib.hid rfl⟩
                obtain ⟨S, hS⟩ : ∃ S, strB L = S := ⟨_, rfl⟩
                obtain ⟨LN, hLn⟩ : ∃ LN, Hid (L.length = LN) := ⟨_, Lib.hid rfl⟩
                have hL256 : Hid (∀ x ∈ L, x < 256) := Lib.hid (by rw [← hL.out]; exact fBy_lt H pm)
                have t0 : Hid (Tri w (wr.drewN 1) H gf Af cf gg Ag cg gm Am cm pf pm pm) := Lib.hid (htri.out.on (below_drewN (Below.refl _ _) 1))
                have hd : Hid (Below w.heap.size w (World.drew wr)) := Lib.hid (below_drewN hon.out 1)
                have hbyg := Lib.hid (fbytes_any t0.out.g)
                rw [hL.out] at hbyg
                unfold FByP at hbyg
                rw [hLn.out] at hbyg
                have hlen2 : Hid (pm.length = pf.length) := Lib.hid (by rw [hbm3.out.1, hbf3.out.1])
                refine wp_region_held (S := fun W => Below w.heap.size w W) (by kernel_rfl) ?_
                change wpAnyH _ _ _ _ _ _ _ _ (World.drew _)
                refine tk (i := 0) (d := 144) (v := .pointer (some ⟨gg, 0, none⟩)) rfl rfl (Or.inl ⟨by rfl, by intro W hW; clear hW; go_simp⟩) hd.out ?_
                simp only [List.setIfInBounds_toArray, List.set_cons_zero, List.set_cons_succ]
                refine tk (i := 3) (d := 147) (v := .pointer (some ⟨gm, 0, none⟩)) rfl rfl (Or.inl ⟨by rfl, by intro W hW; clear hW; go_simp⟩) hd.out ?_
                simp only [List.setIfInBounds_toArray, List.set_cons_zero, List.set_cons_succ]
                refine wpAnyH_ready (rs := [1]) (by kernel_rfl) (by simp) ?_
                refine AllReadyH.cons rfl (fun K hK => ?_) AllReadyH.nil
                go_simp
                refine hbyg.out.mono ?_
                rintro e w5 ⟨⟨A5, c5, rfl, o5⟩, b5⟩
                have oa := Lib.hid o5
                have t5 := Lib.hid (t0.out.on b5)
                have on5 := Lib.hid t5.out.below
                have hbym := Lib.hid (fbytes_any t5.out.m)
                rw [hL.out] at hbym
                unfold FByP at hbym
                rw [hLn.out] at hbym
                clear o5 b5 hbyg
                refine hK.out _ _ on5.out (fun _ => ?_)
                clear hK K
                refine wpAnyH_ready (rs := [2, 4]) (by kernel_rfl) (by simp) ?_
                refine AllReadyH.cons rfl (fun K hK => ?_) (AllReadyH.cons rfl (fun K hK => ?_) AllReadyH.nil)
                · have hcv := conv_bytes _ L A5 c5 _ oa.out.byt hL256.out
                  rw [hLn.out, hS] at hcv
                  go_simp
                  clear hcv
                  refine hK.out _ _ on5.out (fun _ => ?_)
                  clear hK K
                  refine wpAnyH_ready (rs := [4]) (by kernel_rfl) (by simp) ?_
                  refine AllReadyH.cons rfl (fun K hK => ?_) AllReadyH.nil
                  go_simp
                  refine hbym.out.mono ?_
                  rintro e w6 ⟨⟨A6, c6, rfl, o6⟩, b6⟩
                  have ob := Lib.hid o6
                  have oa := Lib.hid (oa.out.below b6 fun k hk => (oa.out.lt k hk).2)
                  have t6 := Lib.hid (t5.out.on b6)
                  have on6 := Lib.hid t6.out.below
                  clear o6 b6 hbym
                  refine hK.out _ _ on6.out (fun _ => ?_)
                  clear hK K
                  refine wpAnyH_ready (rs := [5]) (by kernel_rfl) (by simp) ?_
                  refine AllReadyH.cons rfl (fun K hK => ?_) AllReadyH.nil
                  have hcv := conv_bytes _ L A6 c6 _ ob.out.byt hL256.out
                  rw [hLn.out, hS] at hcv
                  go_simp
                  clear hcv
                  refine hK.out _ _ on6.out (fun _ => ?_)
                  clear hK K
                  refine tk (i := 6) (d := 150) (v := .bool false) rfl rfl (Or.inl ⟨by rfl, by intro W hW; clear hW; go_simp⟩) on6.out ?_
                  simp only [List.setIfInBounds_toArray, List.set_cons_zero, List.set_cons_succ]
                  refine tk (i := 7) (d := 151) (v := .bool false) rfl rfl (Or.inl ⟨by rfl, by intro W hW; clear hW; go_simp⟩) on6.out ?_
                  simp only [List.setIfInBounds_toArray, List.set_cons_zero, List.set_cons_succ]
                  refine tk (i := 8) (d := 152) (v := .pointer (some ⟨gm, 0, none⟩)) rfl rfl (Or.inl ⟨by rfl, by intro W hW; clear hW; go_simp⟩) on6.out ?_
                  simp only [List.setIfInBounds_toArray, List.set_cons_zero, List.set_cons_succ]
                  refine tk (i := 9) (d := 153) (v := .pointer (some ⟨gf, 0, none⟩)) rfl rfl (Or.inl ⟨by rfl, by intro W hW; clear hW; go_simp⟩) on6.out ?_
                  simp only [List.setIfInBounds_toArray, List.set_cons_zero, List.set_cons_succ]
                  refine wpAnyH_ready (rs := [10]) (by kernel_rfl) (by simp) ?_
                  refine AllReadyH.cons rfl (fun K hK => ?_) AllReadyH.nil
                  go_simp
                  refine (meet_any t6.out.m t6.out.f hlen2.out t6.out.fm (fun q => t6.out.f.apart t6.out.m (by rw [q]; rfl))).mono ?_
                  unfold MeetP
                  rintro e w7 ⟨rfl, f7, r7⟩
                  have t7 := Lib.hid (t6.out.setM f7 r7)
                  have on7 := Lib.hid t7.out.below
                  clear f7 r7
                  refine hK.out _ _ on7.out (fun _ => ?_)
                  clear hK K
                  refine tk (i := 11) (d := 155) (v := .bool false) rfl rfl (Or.inl ⟨by rfl, by intro W hW; clear hW; go_simp⟩) on7.out ?_
                  simp only [List.setIfInBounds_toArray, List.set_cons_zero, List.set_cons_succ]
                  refine tk (i := 12) (d := 156) (v := .bool false) rfl rfl (Or.inl ⟨by rfl, by intro W hW; clear hW; go_simp⟩) on7.out ?_
                  simp only [List.setIfInBounds_toArray, List.set_cons_zero, List.set_cons_succ]
                  refine tk (i := 13) (d := 157) (v := .bool false) rfl rfl (Or.inl ⟨by rfl, by intro W hW; clear hW; go_simp⟩) on7.out ?_
                  simp only [List.setIfInBounds_toArray, List.set_cons_zero, List.set_cons_succ]
                  refine tk (i := 14) (d := 158) (v := .pointer (some ⟨gg, 0, none⟩)) rfl rfl (Or.inl ⟨by rfl, by intro W hW; clear hW; go_simp⟩) on7.out ?_
                  simp only [List.setIfInBounds_toArray, List.set_cons_zero, List.set_cons_succ]
                  refine tk (i := 15) (d := 159) (v := .pointer (some ⟨gf, 0, none⟩)) rfl rfl (Or.inl ⟨by rfl, by intro W hW; clear hW; go_simp⟩) on7.out ?_
                  simp only [List.setIfInBounds_toArray, List.set_cons_zero, List.set_cons_succ]
                  refine wpAnyH_ready (rs := [16]) (by kernel_rfl) (by simp) ?_
                  refine AllReadyH.cons rfl (fun K hK => ?_) AllReadyH.nil
                  go_simp
                  refine (join_any t7.out.g t7.out.f hlen2.out t7.out.fg (fun q => t7.out.f.apart t7.out.g (by rw [q]; rfl))).mono ?_
                  unfold JoinP
                  rintro e w8 ⟨rfl, f8, r8⟩
                  have t8 := Lib.hid (t7.out.setG f8 r8)
                  have on8 := Lib.hid t8.out.below
                  clear f8 r8
                  refine hK.out _ _ on8.out (fun _ => ?_)
                  clear hK K
                  refine tk (i := 17) (d := 161) (v := .bool false) rfl rfl (Or.inl ⟨by rfl, by intro W hW; clear hW; go_simp⟩) on8.out ?_
                  simp only [List.setIfInBounds_toArray, List.set_cons_zero, List.set_cons_succ]
                  refine tk (i := 18) (d := 162) (v := .bool false) rfl rfl (Or.inl ⟨by rfl, by intro W hW; clear hW; go_simp⟩) on8.out ?_
                  simp only [List.setIfInBounds_toArray, List.set_cons_zero, List.set_cons_succ]
                  refine wpAnyH_done (by kernel_rfl) ?_ _
                  go_wp2_with fail
                  go_meet
                  exact ⟨rfl, t8, on8⟩
                · go_simp
                  refine hbym.out.mono ?_
                  rintro e w6 ⟨⟨A6, c6, rfl, o6⟩, b6⟩
                  have ob := Lib.hid o6
                  have oa := Lib.hid (oa.out.below b6 fun k hk => (oa.out.lt k hk).2)
                  have t6 := Lib.hid (t5.out.on b6)
                  have on6 := Lib.hid t6.out.below
                  clear o6 b6 hbym
                  refine hK.out _ _ on6.out (fun _ => ?_)
                  clear hK K
                  refine wpAnyH_ready (rs := [2, 5]) (by kernel_rfl) (by simp) ?_
                  refine AllReadyH.cons rfl (fun K hK => ?_) (AllReadyH.cons rfl (fun K hK => ?_) AllReadyH.nil)
                  · have hcv := conv_bytes _ L A5 c5 _ oa.out.byt hL256.out
                    rw [hLn.out, hS] at hcv
                    go_simp
                    clear hcv
                    refine hK.out _ _ on6.out (fun _ => ?_)
                    clear hK K
                    refine wpAnyH_ready (rs := [5]) (by kernel_rfl) (by simp) ?_
                    refine AllReadyH.cons rfl (fun K hK => ?_) AllReadyH.nil
                    have hcv := conv_bytes _ L A6 c6 _ ob.out.byt hL256.out
                    rw [hLn.out, hS] at hcv
                    go_simp
                    clear hcv
                    refine hK.out _ _ on6.out (fun _ => ?_)
                    clear hK K
                    refine tk (i := 6) (d := 150) (v := .bool false) rfl rfl (Or.inl ⟨by rfl, by intro W hW; clear hW; go_simp⟩) on6.out ?_
                    simp only [List.setIfInBounds_toArray, List.set_cons_zero, List.set_cons_succ]
                    refine tk (i := 7) (d := 151) (v := .bool false) rfl rfl (Or.inl ⟨by rfl, by intro W hW; clear hW; go_simp⟩) on6.out ?_
                    simp only [List.setIfInBounds_toArray, List.set_cons_zero, List.set_cons_succ]
                    refine tk (i := 8) (d := 152) (v := .pointer (some ⟨gm, 0, none⟩)) rfl rfl (Or.inl ⟨by rfl, by intro W hW; clear hW; go_simp⟩) on6.out ?_
                    simp only [List.setIfInBounds_toArray, List.set_cons_zero, List.set_cons_succ]
                    refine tk (i := 9) (d := 153) (v := .pointer (some ⟨gf, 0, none⟩)) rfl rfl (Or.inl ⟨by rfl, by intro W hW; clear hW; go_simp⟩) on6.out ?_
                    simp only [List.setIfInBounds_toArray, List.set_cons_zero, List.set_cons_succ]
                    refine wpAnyH_ready (rs := [10]) (by kernel_rfl) (by simp) ?_
                    refine AllReadyH.cons rfl (fun K hK => ?_) AllReadyH.nil
                    go_simp
                    refine (meet_any t6.out.m t6.out.f hlen2.out t6.out.fm (fun q => t6.out.f.apart t6.out.m (by rw [q]; rfl))).mono ?_
                    unfold MeetP
                    rintro e w7 ⟨rfl, f7, r7⟩
                    have t7 := Lib.hid (t6.out.setM f7 r7)
                    have on7 := Lib.hid t7.out.below
                    clear f7 r7
                    refine hK.out _ _ on7.out (fun _ => ?_)
                    clear hK K
                    refine tk (i := 11) (d := 155) (v := .bool false) rfl rfl (Or.inl ⟨by rfl, by intro W hW; clear hW; go_simp⟩) on7.out ?_
                    simp only [List.setIfInBounds_toArray, List.set_cons_zero, List.set_cons_succ]
                    refine tk (i := 12) (d := 156) (v := .bool false) rfl rfl (Or.inl ⟨by rfl, by intro W hW; clear hW; go_simp⟩) on7.out ?_
                    simp only [List.setIfInBounds_toArray, List.set_cons_zero, List.set_cons_succ]
                    refine tk (i := 13) (d := 157) (v := .bool false) rfl rfl (Or.inl ⟨by rfl, by intro W hW; clear hW; go_simp⟩) on7.out ?_
                    simp only [List.setIfInBounds_toArray, List.set_cons_zero, List.set_cons_succ]
                    refine tk (i := 14) (d := 158) (v := .pointer (some ⟨gg, 0, none⟩)) rfl rfl (Or.inl ⟨by rfl, by intro W hW; clear hW; go_simp⟩) on7.out ?_
                    simp only [List.setIfInBounds_toArray, List.set_cons_zero, List.set_cons_succ]
                    refine tk (i := 15) (d := 159) (v := .pointer (some ⟨gf, 0, none⟩)) rfl rfl (Or.inl ⟨by rfl, by intro W hW; clear hW; go_simp⟩) on7.out ?_
                    simp only [List.setIfInBounds_toArray, List.set_cons_zero, List.set_cons_succ]
                    refine wpAnyH_ready (rs := [16]) (by kernel_rfl) (by simp) ?_
                    refine AllReadyH.cons rfl (fun K hK => ?_) AllReadyH.nil
                    go_simp
                    refine (join_any t7.out.g t7.out.f hlen2.out t7.out.fg (fun q => t7.out.f.apart t7.out.g (by rw [q]; rfl))).mono ?_
                    unfold JoinP
                    rintro e w8 ⟨rfl, f8, r8⟩
                    have t8 := Lib.hid (t7.out.setG f8 r8)
                    have on8 := Lib.hid t8.out.below
                    clear f8 r8
                    refine hK.out _ _ on8.out (fun _ => ?_)
                    clear hK K
                    refine tk (i := 17) (d := 161) (v := .bool false) rfl rfl (Or.inl ⟨by rfl, by intro W hW; clear hW; go_simp⟩) on8.out ?_
                    simp only [List.setIfInBounds_toArray, List.set_cons_zero, List.set_cons_succ]
                    refine tk (i := 18) (d := 162) (v := .bool false) rfl rfl (Or.inl ⟨by rfl, by intro W hW; clear hW; go_simp⟩) on8.out ?_
                    simp only [List.setIfInBounds_toArray, List.set_cons_zero, List.set_cons_succ]
                    refine wpAnyH_done (by kernel_rfl) ?_ _
                    go_wp2_with fail
                    go_meet
                    exact ⟨rfl, t8, on8⟩
                  · have hcv := conv_bytes _ L A6 c6 _ ob.out.byt hL256.out
                    rw [hLn.out, hS] at hcv
                    go_simp
                    clear hcv
                    refine hK.out _ _ on6.out (fun _ => ?_)
                    clear hK K
                    refine wpAnyH_ready (rs := [2]) (by kernel_rfl) (by simp) ?_
                    refine AllReadyH.cons rfl (fun K hK => ?_) AllReadyH.nil
                    have hcv := conv_bytes _ L A5 c5 _ oa.out.byt hL256.out
                    rw [hLn.out, hS] at hcv
                    go_simp
                    clear hcv
                    refine hK.out _ _ on6.out (fun _ => ?_)
                    clear hK K
                    refine tk (i := 6) (d := 150) (v := .bool false) rfl rfl (Or.inl ⟨by rfl, by intro W hW; clear hW; go_simp⟩) on6.out ?_
                    simp only [List.setIfInBounds_toArray, List.set_cons_zero, List.set_cons_succ]
                    refine tk (i := 7) (d := 151) (v := .bool false) rfl rfl (Or.inl ⟨by rfl, by intro W hW; clear hW; go_simp⟩) on6.out ?_
                    simp only [List.setIfInBounds_toArray, List.set_cons_zero, List.set_cons_succ]
                    refine tk (i := 8) (d := 152) (v := .pointer (some ⟨gm, 0, none⟩)) rfl rfl (Or.inl ⟨by rfl, by intro W hW; clear hW; go_simp⟩) on6.out ?_
                    simp only [List.setIfInBounds_toArray, List.set_cons_zero, List.set_cons_succ]
                    refine tk (i := 9) (d := 153) (v := .pointer (some ⟨gf, 0, none⟩)) rfl rfl (Or.inl ⟨by rfl, by intro W hW; clear hW; go_simp⟩) on6.out ?_
                    simp only [List.setIfInBounds_toArray, List.set_cons_zero, List.set_cons_succ]
                    refine wpAnyH_ready (rs := [10]) (by kernel_rfl) (by simp) ?_
                    refine AllReadyH.cons rfl (fun K hK => ?_) AllReadyH.nil
                    go_simp
                    refine (meet_any t6.out.m t6.out.f hlen2.out t6.out.fm (fun q => t6.out.f.apart t6.out.m (by rw [q]; rfl))).mono ?_
                    unfold MeetP
                    rintro e w7 ⟨rfl, f7, r7⟩
                    have t7 := Lib.hid (t6.out.setM f7 r7)
                    have on7 := Lib.hid t7.out.below
                    clear f7 r7
                    refine hK.out _ _ on7.out (fun _ => ?_)
                    clear hK K
                    refine tk (i := 11) (d := 155) (v := .bool false) rfl rfl (Or.inl ⟨by rfl, by intro W hW; clear hW; go_simp⟩) on7.out ?_
                    simp only [List.setIfInBounds_toArray, List.set_cons_zero, List.set_cons_succ]
                    refine tk (i := 12) (d := 156) (v := .bool false) rfl rfl (Or.inl ⟨by rfl, by intro W hW; clear hW; go_simp⟩) on7.out ?_
                    simp only [List.setIfInBounds_toArray, List.set_cons_zero, List.set_cons_succ]
                    refine tk (i := 13) (d := 157) (v := .bool false) rfl rfl (Or.inl ⟨by rfl, by intro W hW; clear hW; go_simp⟩) on7.out ?_
                    simp only [List.setIfInBounds_toArray, List.set_cons_zero, List.set_cons_succ]
                    refine tk (i := 14) (d := 158) (v := .pointer (some ⟨gg, 0, none⟩)) rfl rfl (Or.inl ⟨by rfl, by intro W hW; clear hW; go_simp⟩) on7.out ?_
                    simp only [List.setIfInBounds_toArray, List.set_cons_zero, List.set_cons_succ]
                    refine tk (i := 15) (d := 159) (v := .pointer (some ⟨gf, 0, none⟩)) rfl rfl (Or.inl ⟨by rfl, by intro W hW; clear hW; go_simp⟩) on7.out ?_
                    simp only [List.setIfInBounds_toArray, List.set_cons_zero, List.set_cons_succ]
                    refine wpAnyH_ready (rs := [16]) (by kernel_rfl) (by simp) ?_
                    refine AllReadyH.cons rfl (fun K hK => ?_) AllReadyH.nil
                    go_simp
                    refine (join_any t7.out.g t7.out.f hlen2.out t7.out.fg (fun q => t7.out.f.apart t7.out.g (by rw [q]; rfl))).mono ?_
                    unfold JoinP
                    rintro e w8 ⟨rfl, f8, r8⟩
                    have t8 := Lib.hid (t7.out.setG f8 r8)
                    have on8 := Lib.hid t8.out.below
                    clear f8 r8
                    refine hK.out _ _ on8.out (fun _ => ?_)
                    clear hK K
                    refine tk (i := 17) (d := 161) (v := .bool false) rfl rfl (Or.inl ⟨by rfl, by intro W hW; clear hW; go_simp⟩) on8.out ?_
                    simp only [List.setIfInBounds_toArray, List.set_cons_zero, List.set_cons_succ]
                    refine tk (i := 18) (d := 162) (v := .bool false) rfl rfl (Or.inl ⟨by rfl, by intro W hW; clear hW; go_simp⟩) on8.out ?_
                    simp only [List.setIfInBounds_toArray, List.set_cons_zero, List.set_cons_succ]
                    refine wpAnyH_done (by kernel_rfl) ?_ _
                    go_wp2_with fail
                    go_meet
                    exact ⟨rfl, t8, on8⟩
              case rest =>
                obtain ⟨rfl, htri, hon⟩ := hcut
                obtain ⟨J, hJ⟩ : ∃ J, Hid (joinQ pm pf = J) := ⟨_, Lib.hid rfl⟩
                obtain ⟨Z, hZ⟩ : ∃ Z, Hid (meetQ pm pf = Z) := ⟨_, Lib.hid rfl⟩
                rw [hJ.out, hZ.out] at htri
                obtain ⟨L, hL⟩ : ∃ L, Hid (fBy H J = L) := ⟨_, Lib.hid rfl⟩
                obtain ⟨LN, hLn⟩ : ∃ LN, Hid (L.length = LN) := ⟨_, Lib.hid rfl⟩
                have hby := Lib.hid (fbytes_any htri.out.g)
                rw [hL.out] at hby
                unfold FByP at hby
                rw [hLn.out] at hby
                have hbJ : Hid (Bits H n J (fun k => ((∃ t, t < n2 ∧ ks2 t = k) ∨ ∃ t, t < n3 ∧ ks3 t = k) ∨ ((∃ t, t < n1 ∧ ks1 t = k) ∨ ∃ t, t < n3 ∧ ks3 t = k))) := Lib.hid (by rw [← hJ.out]; exact hbm3.out.join hbf3.out)
                go_wp2_with (first
                  | (go_at_call 22
                     refine hby.out.mono ?_
                     rintro e w9 ⟨⟨A9, c9, rfl, o9⟩, b9⟩
                     have t9 := Lib.hid (htri.out.on b9)
                     have hop : Hid (Calls Try.prog 20 #[.slice A9 LN c9] w9 fun e w' => (∃ g A c, e = .returned (.tuple #[.pointer (some ⟨g, 0, none⟩), .int .i64 0]) ∧ Flt w' w9.heap.size g A c J H) ∧ Below w9.heap.size w9 w') := Lib.hid (reopen_any w9 A9 H J LN c9 (by rw [hL.out]; exact hLn.out) (by rw [hL.out]; exact o9.byt) hH1'.out hH2'.out htri.out.g.n1 htri.out.g.nm htri.out.g.lt)
                     clear o9 b9 hby)
                  | (go_at_call 20
                     refine hop.out.mono ?_
                     rintro e wz ⟨⟨ga, Aa0, ca, rfl, fa⟩, ba⟩
                     obtain ⟨Aa, eA, _⟩ := fa.at
                     subst eA
                     have ha := Lib.hid fa
                     have tz := Lib.hid (t9.out.on ba)
                     have onz := Lib.hid tz.out.below
                     clear fa ba hop t9))
                clear htri hon
                have hzz : Hid (Below wz.heap.size wz wz) := Lib.hid (Below.refl _ _)
                have hasX : Hid (∀ (g A c : Nat) (l : List Nat) (B : Nat), Flt wz B g (some ⟨A, 0, none⟩) c l H → ∀ kb kv, Hid (u8s kb = kv) → Hid (kb.length = 32 ∧ ∀ x ∈ kb, x < 256) → hasQ (k1Q kb) (k2Q kb) (64 * l.length) l H = true → ∀ W, Hid (Below wz.heap.size wz W) → Calls Try.prog 26 #[.pointer (some ⟨g, 0, none⟩), .agg kv.toArray] W fun e w' => e = .returned (.bool true) ∧ Hid (Below wz.heap.size wz w') ∧ Hid (Below w.heap.size w w')) := Lib.hid fun g A c l B f kb kv he hk ht W hW => by
                  refine (hasT_any (f.below hW.out) kb kv he hk ht).mono ?_
                  rintro e w' ⟨rfl, b⟩
                  have b2 := hW.out.trans (b.mono hW.out.size)
                  exact ⟨rfl, Lib.hid b2, Lib.hid (onz.out.trans (b2.mono onz.out.size))⟩
                go_loopw [19] (fun iv wr => ∃ i4 : Nat, i4 ≤ n1 ∧ iv = .int .i64 (i4 : Int) ∧ Hid (Below wz.heap.size wz wr) ∧ Hid (Below w.heap.size w wr)) (fun iv _ => n1 - (intOf iv).toNat)
                case atStart => exact ⟨0, by omega, rfl, hzz, onz⟩
                case round =>
                  obtain ⟨i4, hi_i4, rfl, hzr, honr⟩ := hrel
                  by_cases hlt_i4 : i4 < n1
                  · obtain ⟨bb1, of1, rfl, hbb1, hrr1⟩ := hK1.out.row (by omega)
                    have hb1 := Lib.hid hbb1
                    have hw1 := Lib.hid hrr1
                    clear hbb1 hrr1
                    obtain ⟨kb, hkb⟩ : ∃ kb, ks1 (i4) = kb := ⟨_, rfl⟩
                    have hke := Lib.hid hkb
                    obtain ⟨kv, hkv⟩ : ∃ kv, u8s kb = kv := ⟨_, rfl⟩
                    have he := Lib.hid hkv
                    have hk : Hid (kb.length = 32 ∧ ∀ x ∈ kb, x < 256) := Lib.hid (hkb ▸ ⟨hK1.out.len _ (by omega), hK1.out.lt _ (by omega)⟩)
                    have hl : Hid (kv.length = 32) := Lib.hid (by rw [← hkv, u8s_length]; exact hk.out.1)
                    have hr : Hid (∀ W, Below w.heap.size w W → W.rangeAt bb1 (of1 + i4 * 32) kv) := Lib.hid fun W hb jj v hv => (hb.cell (p := ⟨bb1, of1 + i4 * 32 + jj, none⟩) hb1.out).trans (hw1.out (i4) (by omega) jj v (by rw [hkb, hkv]; exact hv))
                    clear hkb hkv
                    have hF := Lib.hid (hasX.out _ _ _ _ _ tz.out.f kb kv he hk (hbf3.out.has hn'.out (.inl ⟨_, hlt_i4, hke.out⟩)))
                    have hG := Lib.hid (hasX.out _ _ _ _ _ tz.out.g kb kv he hk (hbJ.out.has hn'.out (.inr (.inl ⟨_, hlt_i4, hke.out⟩))))
                    have hA := Lib.hid (hasX.out _ _ _ _ _ ha.out kb kv he hk (hbJ.out.has hn'.out (.inr (.inl ⟨_, hlt_i4, hke.out⟩))))
                    go_wp2_with (first
                      | (refine wpList_load_mid_g rfl 51 _ rfl bb1 (of1 + i4 * 32) rfl kv _ (hr.out _ (show Hid (Below w.heap.size w _) by assumption).out) Try.underlying51 rfl (by rw [hl.out]; exact hi32.out) ?_)
                      | (go_at_call 26; refine (hF.out _ (by assumption)).mono ?_; rintro e w5 ⟨rfl, s5, on5⟩; clear hF)
                      | (go_at_call 26; refine (hG.out _ (by assumption)).mono ?_; rintro e w6 ⟨rfl, s6, on6⟩; clear hG)
                      | (go_at_call 26; refine (hA.out _ (by assumption)).mono ?_; rintro e w7 ⟨rfl, s7, on7⟩; clear hA))
                    go_roundw
                    case rel => exact ⟨i4 + 1, by omega, by go_num, s7, on7⟩
                    case measure => simp [intOf]; omega
                  · go_wp2_with fail
                    go_loopw [20] (fun iv wr => ∃ i5 : Nat, i5 ≤ n2 ∧ iv = .int .i64 (i5 : Int) ∧ Hid (Below wz.heap.size wz wr) ∧ Hid (Below w.heap.size w wr)) (fun iv _ => n2 - (intOf iv).toNat)
                    case atStart => exact ⟨0, by omega, rfl, hzr, honr⟩
                    case round =>
                      clear hzr honr
                      obtain ⟨i5, hi_i5, rfl, hzr, honr⟩ := hrel
                      by_cases hlt_i5 : i5 < n2
                      · obtain ⟨bb2, of2, rfl, hbb2, hrr2⟩ := hK2.out.row (by omega)
                        have hb2 := Lib.hid hbb2
                        have hw2 := Lib.hid hrr2
                        clear hbb2 hrr2
                        obtain ⟨kb, hkb⟩ : ∃ kb, ks2 (i5) = kb := ⟨_, rfl⟩
                        have hke := Lib.hid hkb
                        obtain ⟨kv, hkv⟩ : ∃ kv, u8s kb = kv := ⟨_, rfl⟩
                        have he := Lib.hid hkv
                        have hk : Hid (kb.length = 32 ∧ ∀ x ∈ kb, x < 256) := Lib.hid (hkb ▸ ⟨hK2.out.len _ (by omega), hK2.out.lt _ (by omega)⟩)
                        have hl : Hid (kv.length = 32) := Lib.hid (by rw [← hkv, u8s_length]; exact hk.out.1)
                        have hr : Hid (∀ W, Below w.heap.size w W → W.rangeAt bb2 (of2 + i5 * 32) kv) := Lib.hid fun W hb jj v hv => (hb.cell (p := ⟨bb2, of2 + i5 * 32 + jj, none⟩) hb2.out).trans (hw2.out (i5) (by omega) jj v (by rw [hkb, hkv]; exact hv))
                        clear hkb hkv
                        have hG := Lib.hid (hasX.out _ _ _ _ _ tz.out.g kb kv he hk (hbJ.out.has hn'.out (.inl (.inl ⟨_, hlt_i5, hke.out⟩))))
                        have hA := Lib.hid (hasX.out _ _ _ _ _ ha.out kb kv he hk (hbJ.out.has hn'.out (.inl (.inl ⟨_, hlt_i5, hke.out⟩))))
                        go_wp2_with (first
                          | (refine wpList_load_mid_g rfl 51 _ rfl bb2 (of2 + i5 * 32) rfl kv _ (hr.out _ (show Hid (Below w.heap.size w _) by assumption).out) Try.underlying51 rfl (by rw [hl.out]; exact hi32.out) ?_)
                          | (go_at_call 26; refine (hG.out _ (by assumption)).mono ?_; rintro e w5 ⟨rfl, s5, on5⟩; clear hG)
                          | (go_at_call 26; refine (hA.out _ (by assumption)).mono ?_; rintro e w6 ⟨rfl, s6, on6⟩; clear hA))
                        go_roundw
                        case rel => exact ⟨i5 + 1, by omega, by go_num, s6, on6⟩
                        case measure => simp [intOf]; omega
                      · go_wp2_with fail
                        go_loopw [21] (fun iv wr => ∃ i6 : Nat, i6 ≤ n3 ∧ iv = .int .i64 (i6 : Int) ∧ Hid (Below wz.heap.size wz wr) ∧ Hid (Below w.heap.size w wr)) (fun iv _ => n3 - (intOf iv).toNat)
                        case atStart => exact ⟨0, by omega, rfl, hzr, honr⟩
                        case round =>
                          clear hzr honr
                          obtain ⟨i6, hi_i6, rfl, hzr, honr⟩ := hrel
                          by_cases hlt_i6 : i6 < n3
                          · obtain ⟨bb3, of3, rfl, hbb3, hrr3⟩ := hK3.out.row (by omega)
                            have hb3 := Lib.hid hbb3
                            have hw3 := Lib.hid hrr3
                            clear hbb3 hrr3
                            obtain ⟨kb, hkb⟩ : ∃ kb, ks3 (i6) = kb := ⟨_, rfl⟩
                            have hke := Lib.hid hkb
                            obtain ⟨kv, hkv⟩ : ∃ kv, u8s kb = kv := ⟨_, rfl⟩
                            have he := Lib.hid hkv
                            have hk : Hid (kb.length = 32 ∧ ∀ x ∈ kb, x < 256) := Lib.hid (hkb ▸ ⟨hK3.out.len _ (by omega), hK3.out.lt _ (by omega)⟩)
                            have hl : Hid (kv.length = 32) := Lib.hid (by rw [← hkv, u8s_length]; exact hk.out.1)
                            have hr : Hid (∀ W, Below w.heap.size w W → W.rangeAt bb3 (of3 + i6 * 32) kv) := Lib.hid fun W hb jj v hv => (hb.cell (p := ⟨bb3, of3 + i6 * 32 + jj, none⟩) hb3.out).trans (hw3.out (i6) (by omega) jj v (by rw [hkb, hkv]; exact hv))
                            clear hkb hkv
                            have hM := Lib.hid (hasX.out _ _ _ _ _ tz.out.m kb kv he hk (by rw [← hZ.out]; exact hbm3.out.has_meet hbf3.out hn'.out (.inr ⟨_, hlt_i6, hke.out⟩) (.inr ⟨_, hlt_i6, hke.out⟩)))
                            have hA := Lib.hid (hasX.out _ _ _ _ _ ha.out kb kv he hk (hbJ.out.has hn'.out (.inl (.inr ⟨_, hlt_i6, hke.out⟩))))
                            go_wp2_with (first
                              | (refine wpList_load_mid_g rfl 51 _ rfl bb3 (of3 + i6 * 32) rfl kv _ (hr.out _ (show Hid (Below w.heap.size w _) by assumption).out) Try.underlying51 rfl (by rw [hl.out]; exact hi32.out) ?_)
                              | (go_at_call 26; refine (hM.out _ (by assumption)).mono ?_; rintro e w5 ⟨rfl, s5, on5⟩; clear hM)
                              | (go_at_call 26; refine (hA.out _ (by assumption)).mono ?_; rintro e w6 ⟨rfl, s6, on6⟩; clear hA))
                            go_roundw
                            case rel => exact ⟨i6 + 1, by omega, by go_num, s6, on6⟩
                            case measure => simp [intOf]; omega
                          · have hst := hzr
                            by_cases h0 : n1 + n2 + n3 = 0
                            · have hd0 : (((n1 : Int) + (n2 : Int) + (n3 : Int)) == 0) = true := by simp; omega
                              go_wp2_with fail
                              go_ret
                              exact ⟨rfl, honr.out⟩
                            · have hd0 : (((n1 : Int) + (n2 : Int) + (n3 : Int)) == 0) = false := by simp; omega
                              have hpos : Hid (0 < popL J) := Lib.hid (by
                                rcases Nat.eq_zero_or_pos n1 with h1 | h1
                                · rcases Nat.eq_zero_or_pos n2 with h2 | h2
                                  · exact hbJ.out.pos hn'.out hH1'.out ha.out.lt (k := ks3 0) (.inl (.inr ⟨0, by omega, rfl⟩))
                                  · exact hbJ.out.pos hn'.out hH1'.out ha.out.lt (k := ks2 0) (.inl (.inl ⟨0, by omega, rfl⟩))
                                · exact hbJ.out.pos hn'.out hH1'.out ha.out.lt (k := ks1 0) (.inr (.inl ⟨0, by omega, rfl⟩)))
                              have haf := Lib.hid (alarm_facts (popL_le J) (by have := ha.out.n1; omega) (by have := ha.out.nm; omega) ha.out.h1 ha.out.h16)
                              have hff := Lib.hid (fillF_eq (popL_le J) (by have := ha.out.n1; omega) (by have := ha.out.nm; omega))
                              have hOn : Hid (∀ W, Hid (Below wz.heap.size wz W) → Calls Try.prog 28 #[.pointer (some ⟨ga, 0, none⟩)] W fun e w' => e = .returned (.int .i64 ((popL J : Nat) : Int)) ∧ Hid (Below wz.heap.size wz w')) := Lib.hid fun W hW => (ones_any (ha.out.below hW.out)).mono fun _ _ ⟨h1, h2⟩ => ⟨h1, h2 ▸ hW⟩
                              have hAl : Hid (∀ W, Hid (Below wz.heap.size wz W) → Calls Try.prog 31 #[.pointer (some ⟨ga, 0, none⟩)] W fun e w' => e = .returned (.float .f64 (alarmF (popL J) (64 * J.length) H)) ∧ Hid (Below wz.heap.size wz w')) := Lib.hid fun W hW => (alarm_any (ha.out.below hW.out)).mono fun _ _ ⟨h1, m, h2⟩ => ⟨h1, h2 ▸ Lib.hid (below_drewN hW.out m)⟩
                              have hFi : Hid (∀ W, Hid (Below wz.heap.size wz W) → Calls Try.prog 32 #[.pointer (some ⟨ga, 0, none⟩)] W fun e w' => e = .returned (.float .f64 (fillF (popL J) (64 * J.length))) ∧ Hid (Below wz.heap.size wz w')) := Lib.hid fun W hW => (fill_any (ha.out.below hW.out)).mono fun _ _ ⟨h1, m, h2⟩ => ⟨h1, h2 ▸ Lib.hid (below_drewN hW.out m)⟩
                              generalize alarmF (popL J) (64 * J.length) H = al at haf hAl
                              generalize fillF (popL J) (64 * J.length) = fi at haf hff hFi
                              obtain ⟨o, ho⟩ : ∃ o, popL J = o := ⟨_, rfl⟩
                              rw [ho] at hOn hpos haf
                              have hpo := hpos.out
                              have or1 := ord_gt haf.out.1 (haf.out.2.2 hpo)
                              have or2 := ord_one haf.out.1
                              have or3 := ord_ge hff.out.2.1 haf.out.2.1
                              clear hpos haf hff ho
                              go_wp2_with (first
                                | (go_at_call 28; refine (hOn.out _ (by assumption)).mono ?_; rintro e w5 ⟨rfl, s5⟩)
                                | (go_at_call 31; refine (hAl.out _ (by assumption)).mono ?_; rintro e w5 ⟨rfl, s5⟩)
                                | (go_at_call 32; refine (hFi.out _ (by assumption)).mono ?_; rintro e w5 ⟨rfl, s5⟩))
                              go_ret
                              exact ⟨rfl, onz.out.trans (s5.out.mono onz.out.size)⟩







end Go.Proofs.Ytlghgfnkckaebaa

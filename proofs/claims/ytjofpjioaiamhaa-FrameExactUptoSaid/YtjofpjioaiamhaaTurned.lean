/- FrameTurned: the law's walk. -/
import Derived.Test.YtjofpjioaiamhaaTurn
import Derived.Test.YtjofpjioaiamhaaSameB
import Derived.Test.YtjofpjioaiamhaaArgs
import Derived.StillTailTactics
import Derived.BigRegion
namespace Go.Proofs.Ytjofpjioaiamhaa
open Go.RowKit

/-- The argument's cells where the law has boxed it. -/
def Box8 (w : World) (g : Nat) (c0 c1 c2 c3 c4 c5 c6 c7 : Value) : Prop :=
  w.cell? ⟨g, 0, none⟩ = some c0 ∧ w.cell? ⟨g, 1, none⟩ = some c1 ∧ w.cell? ⟨g, 2, none⟩ = some c2 ∧ w.cell? ⟨g, 3, none⟩ = some c3 ∧ w.cell? ⟨g, 4, none⟩ = some c4 ∧ w.cell? ⟨g, 5, none⟩ = some c5 ∧ w.cell? ⟨g, 6, none⟩ = some c6 ∧ w.cell? ⟨g, 7, none⟩ = some c7
theorem Box8.keep {w w' : World} {B g : Nat} {c0 c1 c2 c3 c4 c5 c6 c7 : Value} (h : Box8 w g c0 c1 c2 c3 c4 c5 c6 c7) (hb : Below B w w') (hg : g < B) : Box8 w' g c0 c1 c2 c3 c4 c5 c6 c7 :=
  ⟨(hb.cell hg).trans h.1, (hb.cell hg).trans h.2.1, (hb.cell hg).trans h.2.2.1, (hb.cell hg).trans h.2.2.2.1, (hb.cell hg).trans h.2.2.2.2.1, (hb.cell hg).trans h.2.2.2.2.2.1, (hb.cell hg).trans h.2.2.2.2.2.2.1, (hb.cell hg).trans h.2.2.2.2.2.2.2⟩
theorem Box8.new (w : World) (t : TypeId) (c0 c1 c2 c3 c4 c5 c6 c7 : Value) : Box8 (w.alloc (.cells #[c0, c1, c2, c3, c4, c5, c6, c7] t)) w.heap.size c0 c1 c2 c3 c4 c5 c6 c7 :=
  ⟨cell_of_row _ _ 0 _ _ _ (heap_alloc_new w _), cell_of_row _ _ 1 _ _ _ (heap_alloc_new w _), cell_of_row _ _ 2 _ _ _ (heap_alloc_new w _), cell_of_row _ _ 3 _ _ _ (heap_alloc_new w _), cell_of_row _ _ 4 _ _ _ (heap_alloc_new w _), cell_of_row _ _ 5 _ _ _ (heap_alloc_new w _), cell_of_row _ _ 6 _ _ _ (heap_alloc_new w _), cell_of_row _ _ 7 _ _ _ (heap_alloc_new w _)⟩

set_option maxRecDepth 20000 in
set_option maxHeartbeats 1000000 in
theorem works_any (w : World) :
    Calls Try.prog 13 #[] w fun e w' => e = .returned (.bool true) ∧ Below w.heap.size w w' := by
  have hr : Byt (w.alloc (.cells #[.int .u8 97, .int .u8 98] 5)) (w.heap.size + 1) (some ⟨w.heap.size, 0, none⟩) [97, 98] := by
    have h : Own (w.alloc (.cells #[.int .u8 97, .int .u8 98] 5)) 0 5 1 (some ⟨w.heap.size, 0, none⟩) 2 2 (u8s [97, 98]) := Own.lit w 0 5 1 2 #[.int .u8 97, .int .u8 98] rfl (by unfold maxLen; omega) (by omega)
    have := h.byt
    simpa using this
  have hb0 : Below w.heap.size w (w.alloc (.cells #[.int .u8 97, .int .u8 98] 5)) := (Below.refl _ w).alloc (Nat.le_refl _) _
  have hr' := Lib.hid hr
  have hb0' := Lib.hid hb0
  clear hr hb0
  go_enter Try.func13, Try.ntmps13
  go_wp2_with fail
  refine (pack_any [97, 98] _ 2 2 (w.heap.size + 1) _ (by decide) rfl (by omega) (by simp) hr'.out).mono ?_
  rintro e w1 ⟨h1, hb1⟩
  rcases h1 with ⟨A1, c1, rfl, o1, _⟩ | ⟨rfl, h⟩
  · have hB1 := Lib.hid (hb0'.out.trans (hb1.mono (by simp)))
    obtain ⟨g1, rfl⟩ := o1.head (by omega)
    have q0 := o1.cell 0 (by omega)
    have q10 := o1.cell 10 (by omega)
    have e0 : (u8s (recL [97, 98]))[0]? = some (.int .u8 199) := rfl
    have e10 : (u8s (recL [97, 98]))[10]? = some (.int .u8 97) := rfl
    rw [e0] at q0
    rw [e10] at q10
    have o1' := Lib.hid o1
    have hle := o1.le
    obtain ⟨hle1, hle2⟩ := hle
    clear hb1 e0 e10 o1 hb0' hr'
    go_wp2_with fail
    refine (unpack_any (recL [97, 98]) 0 _ 12 c1 w1.heap.size w1 (recL_bytes (by decide) (by decide)) (by rw [recL_length]; rfl) hle1 hle2 (by omega) (Nat.le_refl _) o1'.out.byt).mono ?_
    rintro e w2 ⟨A2, c2, rfl, o2, hb2⟩
    have hu : unpL (recL [97, 98]) 0 = (0, 12, [97, 98]) := by
      have := unpF_rec [97, 98] [] (by decide)
      rw [List.append_nil] at this
      exact this
    rw [hu] at o2 ⊢
    simp only [List.length_cons, List.length_nil] at o2 ⊢
    have hB2 := Lib.hid (hB1.out.trans (hb2.mono hB1.out.size))
    obtain ⟨g2, rfl⟩ := o2.head (by omega)
    have q1 := o2.cell 1 (by omega)
    have e1 : (u8s [97, 98])[1]? = some (.int .u8 98) := rfl
    rw [e1] at q1
    clear hb2 hB1 o2 q0 q10 e1
    go_wp2_with fail
    go_ret
    exact ⟨rfl, hB2.out⟩
  · omega

theorem Box8.by_ {w : World} {g : Nat} {c0 c1 c6 c7 : Value} {y0 y1 y2 y3 : Nat} (h : Box8 w g c0 c1 (.int .u8 y0) (.int .u8 y1) (.int .u8 y2) (.int .u8 y3) c6 c7) (k : Nat) (hk : k < 4) :
    w.cell? ⟨g, 2 + k, none⟩ = some (.int .u8 (([y0, y1, y2, y3][k]?.getD 0 : Nat) : Int)) := by
  rcases (show k = 0 ∨ k = 1 ∨ k = 2 ∨ k = 3 by omega) with e | e | e | e <;> subst e
  · exact h.2.2.1
  · exact h.2.2.2.1
  · exact h.2.2.2.2.1
  · exact h.2.2.2.2.2.1

theorem Own.set_below {w : World} {B e size m c g : Nat} {xs : List Value} (h : Own w B e size (some ⟨g, 0, none⟩) m c xs) (hB : B ≤ w.heap.size) (j : Nat) (u : Value) : Below B w (w.setCell ⟨g, j, none⟩ u) :=
  grown_below (h.set_grown j u) hB (by intro k hk; cases hk; exact (h.lt g rfl).1)
theorem tmod_in (a : Int) {L : Int} (h : 0 < L) : -L < a.tmod L ∧ a.tmod L < L := by
  constructor
  · have := Int.lt_tmod_of_pos a h
    omega
  · exact Int.tmod_lt_of_pos a h

theorem Own.bs {w : World} {B e n c : Nat} {A : Option Addr} {l : List Nat} (h : Own w B e 1 A n c (u8s l)) (hl : l.length = n) : Bs w w.heap.size A n (fun j => ((l[j]?.getD 0 : Nat) : Int)) := by
  subst hl
  exact h.byt

/-- What holds while the bytes are turned. -/
structure Turning (w wr : World) (go co P k M : Nat) (R : List Nat) (t : Bool) (l : List Nat) (A1 : Option Addr) (c0 c1 c6 c7 : Value) (y0 y1 y2 y3 : Nat) : Prop where
  own : Own wr (w.heap.size + 1) 5 1 (some ⟨go, 0, none⟩) M co (u8s (xorTo R P [y0, y1, y2, y3] k))
  box : Box8 wr w.heap.size c0 c1 (.int .u8 y0) (.int .u8 y1) (.int .u8 y2) (.int .u8 y3) c6 c7
  bel : Below w.heap.size w wr
  byt : Byt wr w.heap.size A1 l
  tur : t = true ↔ ∃ i, i < k ∧ [y0, y1, y2, y3][i]?.getD 0 ≠ 0

theorem Turning.drewN {w wr : World} {go co P k M : Nat} {R l : List Nat} {t : Bool} {A1 : Option Addr} {c0 c1 c6 c7 : Value} {y0 y1 y2 y3 : Nat} (h : Turning w wr go co P k M R t l A1 c0 c1 c6 c7 y0 y1 y2 y3) (m : Nat) :
    Turning w (wr.drewN m) go co P k M R t l A1 c0 c1 c6 c7 y0 y1 y2 y3 := ⟨h.own.drewN m, h.box, below_drewN h.bel m, h.byt, h.tur⟩
theorem Turning.store {w wr : World} {go co P k M : Nat} {R l : List Nat} {t : Bool} {A1 : Option Addr} {c0 c1 c6 c7 : Value} {y0 y1 y2 y3 : Nat} (h : Turning w wr go co P k M R t l A1 c0 c1 c6 c7 y0 y1 y2 y3) (t' : Bool)
    (ht : t' = (t || decide ([y0, y1, y2, y3][k]?.getD 0 ≠ 0))) (hw : w.heap.size + 1 ≤ wr.heap.size) :
    Turning w (wr.setCell ⟨go, P + k, none⟩ (.int .u8 ((((xorTo R P [y0, y1, y2, y3] k)[P + k]?.getD 0) ^^^ ([y0, y1, y2, y3][k]?.getD 0) : Nat) : Int))) go co P (k + 1) M R t' l A1 c0 c1 c6 c7 y0 y1 y2 y3 where
  own := by
    have := h.own.set (P + k) (.int .u8 ((((xorTo R P [y0, y1, y2, y3] k)[P + k]?.getD 0) ^^^ ([y0, y1, y2, y3][k]?.getD 0) : Nat) : Int))
    rw [u8s_set] at this
    exact this
  box := h.box.keep (h.own.set_below hw _ _) (Nat.lt_succ_self _)
  bel := h.bel.trans ((h.own.set_below hw _ _).mono (Nat.le_succ _))
  byt := h.byt.below ((h.own.set_below hw _ _).mono (Nat.le_succ _))
  tur := by
    rw [ht, Bool.or_eq_true, h.tur, decide_eq_true_iff]
    constructor
    · rintro (⟨i, hi, hne⟩ | hne)
      · exact ⟨i, by omega, hne⟩
      · exact ⟨k, by omega, hne⟩
    · rintro ⟨i, hi, hne⟩
      by_cases e : i < k
      · exact .inl ⟨i, e, hne⟩
      · have e' : i = k := by omega
        subst e'
        exact .inr hne

theorem turning0 {w w1 w2 : World} {go co P M : Nat} {R l : List Nat} {A1 : Option Addr} {c0 c1 c6 c7 : Value} {y0 y1 y2 y3 : Nat} (oo : Own w2 w1.heap.size 5 1 (some ⟨go, 0, none⟩) M co (u8s R)) (hbox : Box8 w1 w.heap.size c0 c1 (.int .u8 y0) (.int .u8 y1) (.int .u8 y2) (.int .u8 y3) c6 c7)
    (hB : Below w.heap.size w w1) (hb : Below w1.heap.size w1 w2) (hsz : w.heap.size + 1 ≤ w1.heap.size) (h1 : Byt w w.heap.size A1 l) : Hid (Turning w w2 go co P 0 M R false l A1 c0 c1 c6 c7 y0 y1 y2 y3) :=
  Lib.hid (Turning.mk (oo.base hsz) (hbox.keep hb (by omega)) (hB.trans (hb.mono hB.size)) ((h1.below hB).below (hb.mono hB.size)) ⟨fun h => absurd h (by decide), fun ⟨i, hi, _⟩ => absurd hi (by omega)⟩)

theorem turned_bad (l z bs : List Nat) (P k nn n1 : Nat) (hl : ∀ b ∈ l, b < 256) (hz : ∀ b ∈ z, b < 256) (hbs : ∀ b ∈ bs, b < 256) (hn1 : l.length = n1) (hsm : n1 ≤ 65526) (hfor : nn = 1 ∨ 10 ≤ P ∧ nn = 4) (hk : k ≤ nn) (hPk : P + k ≤ n1 + 10)
    (h : ∃ i, i < k ∧ bs[i]?.getD 0 ≠ 0) : (unpF (xorTo (recL l ++ z) P bs k)).1 ≠ 0 := by
  obtain ⟨i, hi, hne⟩ := h
  have hall : ∀ b ∈ recL l ++ z, b < 256 := bytes_app (recL_bytes hl (by omega)) hz
  by_cases hP : P < 10
  · have hk1 : k = 1 := by omega
    have hi0 : i = 0 := by omega
    subst hk1 hi0
    have a1 := bytes_getD hall P
    have a2 := bytes_getD hbs 0
    exact bad_head l z P _ (by omega) hP (xor_ne hne) (Nat.xor_lt_two_pow (n := 8) a1 a2)
  · have := bad_body l z bs (P - 10) k hl hz hbs (by omega) (by omega) i hi (by omega) hne
    rw [show P - 10 + 10 = P by omega] at this
    exact this

set_option maxRecDepth 20000 in
set_option maxHeartbeats 4000000 in
theorem turned_any (l z : List Nat) (At : Int) (y0 y1 y2 y3 : Nat) (four : Bool) (A1 A2 : Option Addr) (n1 n2 c1 c2 : Nat) (w : World) (hl : ∀ b ∈ l, b < 256) (hz : ∀ b ∈ z, b < 256) (hy0 : y0 < 256) (hy1 : y1 < 256) (hy2 : y2 < 256) (hy3 : y3 < 256)
    (hn1 : l.length = n1) (hn2 : z.length = n2) (h1m : n1 ≤ 140737488351232) (h2m : n2 ≤ 140737488351232) (h1 : Byt w w.heap.size A1 l) (h2 : Byt w w.heap.size A2 z) :
    Calls Try.prog 5 #[.agg #[.slice A1 n1 c1, .int .i64 At, .int .u8 y0, .int .u8 y1, .int .u8 y2, .int .u8 y3, .bool four, .slice A2 n2 c2]] w fun e w' => e = .returned (.bool true) ∧ Below w.heap.size w w' := by
  have hl' := Lib.hid hl
  have hz' := Lib.hid hz
  have hn1' := Lib.hid hn1
  have hn2' := Lib.hid hn2
  have h1' := Lib.hid h1
  have h2' := Lib.hid h2
  have hb0 := Lib.hid ((Below.refl w.heap.size w).alloc (Nat.le_refl _) (.cells #[.slice A1 n1 c1, .int .i64 At, .int .u8 y0, .int .u8 y1, .int .u8 y2, .int .u8 y3, .bool four, .slice A2 n2 c2] 31))
  have hbox := Lib.hid (Box8.new w 31 (.slice A1 n1 c1) (.int .i64 At) (.int .u8 y0) (.int .u8 y1) (.int .u8 y2) (.int .u8 y3) (.bool four) (.slice A2 n2 c2))
  clear hl hz hn1 hn2 h1 h2
  go_enter Try.func5, Try.ntmps5
  go_wp2_with fail
  refine (pack_any l A1 n1 c1 w.heap.size _ hl'.out hn1'.out (by omega) (by simp) (h1'.out.below hb0.out)).mono ?_
  rintro e w1 ⟨hp, hb1⟩
  have hB1 := Lib.hid (hb0.out.trans (hb1.mono (by simp)))
  have hbox1 := hbox.out.keep hb1 (by simp)
  have hsz : w.heap.size + 1 ≤ w1.heap.size := by have := hb1.size; simpa using this
  obtain ⟨q0, q1, _, _, _, _, q6, q7⟩ := hbox1
  have hbox1 := Lib.hid (hbox.out.keep hb1 (by simp))
  rcases hp with ⟨Ap, cp, rfl, op, hsm⟩ | ⟨rfl, hbig⟩
  · cases four
    · have op' := Lib.hid op
      clear op hb1 hbox hb0
      have hL := tmod_in At (L := (n1 : Int) + 10) (by omega)
      obtain ⟨T, hT⟩ : ∃ T, At.tmod ((n1 : Int) + 10) = T := ⟨_, rfl⟩
      rw [hT] at hL
      obtain ⟨hL1, hL2⟩ := hL
      obtain ⟨P, hP, hPn⟩ : ∃ P : Nat, (T < 0 ∧ T + ((n1 : Int) + 10) = P ∨ ¬ T < 0 ∧ T = P) ∧ P < n1 + 10 := by
        by_cases hs : T < 0
        · exact ⟨(T + ((n1 : Int) + 10)).toNat, .inl ⟨hs, by omega⟩, by omega⟩
        · exact ⟨T.toNat, .inr ⟨hs, by omega⟩, by omega⟩
      obtain ⟨nn, hnn⟩ : ∃ nn, nn = 1 := ⟨_, rfl⟩
      have hfor : Hid (nn = 1 ∨ 10 ≤ P ∧ nn = 4) := Lib.hid (.inl hnn)
      rcases hP with ⟨hs, hP⟩ | ⟨hs, hP⟩
      · go_wp2_with fail
        refine (joined_any (recL l) z Ap A2 (n1 + 10) n2 cp c2 w1.heap.size w1 (by rw [recL_length, hn1'.out]) hn2'.out (by omega) (by omega) (by omega) (Nat.le_refl _) op'.out.byt ((h2'.out.below hB1.out).mono hB1.out.size)).mono ?_
        rintro e w2 ⟨⟨Ao, co, rfl, oo⟩, hb2⟩
        obtain ⟨go, rfl⟩ := oo.head (by omega)
        have hT0 := turning0 (P := P) (R := recL l ++ z) oo hbox1.out hB1.out hb2 hsz h1'.out
        have hsz2 : w.heap.size + 1 ≤ w2.heap.size := Nat.le_trans hsz hb2.size
        clear oo hb2 op' hbox1 hB1 hT hs hL1 hL2 q0 q1 q6 q7
        go_wp2_with fail
        go_loopw [9, 10] (fun t i wr => ∃ (k : Nat) (tb : Bool), k ≤ nn ∧ P + k ≤ n1 + 10 ∧ i = .int .i64 k ∧ t = .bool tb ∧ w.heap.size + 1 ≤ wr.heap.size ∧ Hid (Turning w wr go co P k (n1 + 10 + n2) (recL l ++ z) tb l A1 (.slice A1 n1 c1) (.int .i64 At) (.bool false) (.slice A2 n2 c2) y0 y1 y2 y3)) (fun _ i _ => nn - (intOf i).toNat)
        case atStart => exact ⟨0, false, by omega, by omega, rfl, rfl, hsz2, hT0⟩
        case round =>
          clear hT0 hsz2
          obtain ⟨k, tb, hk, hPk, rfl, rfl, hsw, hTu⟩ := hrel
          by_cases hlt : k < nn ∧ P + k < n1 + 10
          · obtain ⟨hlt1, hlt2⟩ := hlt
            have hk4 : k < 4 := by rcases hfor.out with h | h <;> omega
            have q1 := hTu.out.own.cell (P + k) (by omega)
            rw [u8s_get _ (P + k) (by rw [xorTo_length, List.length_append, recL_length, hn1'.out]; omega)] at q1
            have q2 := hTu.out.own.frozen (P + k)
            have q3 := hTu.out.box.by_ k hk4
            have hb4 : ∀ b ∈ [y0, y1, y2, y3], b < 256 := by intro b hb; simp at hb; omega
            have ha := bytes_getD (xorTo_bytes P (bytes_app (recL_bytes hl'.out (by rw [hn1'.out]; exact hsm)) hz'.out) hb4 k) (P + k)
            have hb := bytes_getD hb4 k
            have hTd := (hTu.out.store (tb || decide ([y0, y1, y2, y3][k]?.getD 0 ≠ 0)) rfl hsw).drewN 1
            have hx := u8_xor_nat _ _ ha hb
            have hsw3 : w.heap.size + 1 ≤ ((wr.setCell ⟨go, P + k, none⟩ (.int .u8 ((((xorTo (recL l ++ z) P [y0, y1, y2, y3] k)[P + k]?.getD 0) ^^^ ([y0, y1, y2, y3][k]?.getD 0) : Nat) : Int))).drewN 1).heap.size := by simpa using hsw
            have q4 := hTd.box.by_ k hk4
            have hTd' := Lib.hid hTd
            clear hTd hTu
            generalize (xorTo (recL l ++ z) P [y0, y1, y2, y3] k)[P + k]?.getD 0 = a at *
            generalize [y0, y1, y2, y3][k]?.getD 0 = b at *
            have hi0 : (0 : Int) ≤ (P : Int) + (k : Int) := by omega
            have hi1 : (P : Int) + (k : Int) < (n1 : Int) + 10 + (n2 : Int) := by omega
            have hi2 : (k : Int) < 4 := by omega
            go_wp2_with fail
            go_region
            clear q1 q2 q3
            replace hTd' : Hid (Turning w ((wr.setCell ⟨go, P + k, none⟩ (.int .u8 ((a ^^^ b : Nat) : Int))).drew) go co P (k + 1) (n1 + 10 + n2) (recL l ++ z) (tb || decide (b ≠ 0)) l A1 (.slice A1 n1 c1) (.int .i64 At) (.bool false) (.slice A2 n2 c2) y0 y1 y2 y3) := hTd'
            replace q4 : ((wr.setCell ⟨go, P + k, none⟩ (.int .u8 ((a ^^^ b : Nat) : Int))).drew).cell? ⟨w.heap.size, 2 + k, none⟩ = some (.int .u8 (b : Int)) := q4
            replace hsw3 : w.heap.size + 1 ≤ ((wr.setCell ⟨go, P + k, none⟩ (.int .u8 ((a ^^^ b : Nat) : Int))).drew).heap.size := hsw3
            generalize (wr.setCell ⟨go, P + k, none⟩ (.int .u8 ((a ^^^ b : Nat) : Int))).drew = w3 at hTd' q4 hsw3 ⊢
            by_cases hb0 : b = 0
            · subst hb0
              cases tb
              all_goals go_wp2_with fail
              all_goals go_roundw
              all_goals first
                | exact ⟨k + 1, _, by omega, by omega, by go_num, rfl, hsw3, hTd'⟩
                | (simp [intOf]; omega)
            · have hb0' : ¬ (b : Int) = 0 := by omega
              have hTe : Hid (Turning w w3 go co P (k + 1) (n1 + 10 + n2) (recL l ++ z) true l A1 (.slice A1 n1 c1) (.int .i64 At) (.bool false) (.slice A2 n2 c2) y0 y1 y2 y3) := by
                have := hTd'
                rw [show (tb || decide (b ≠ 0)) = true by simp [hb0]] at this
                exact this
              clear hTd'
              cases tb
              all_goals go_wp2_with fail
              all_goals go_roundw
              all_goals first
                | exact ⟨k + 1, true, by omega, by omega, by go_num, rfl, hsw3, hTe⟩
                | exact ⟨k + 1, _, by omega, by omega, by go_num, rfl, hsw3, by (rw [show ((b : Int) != 0) = true from bne_iff_ne.2 hb0']); exact hTe⟩
                | (simp [intOf]; omega)
          · have hq : k = nn ∨ P + k = n1 + 10 := by omega
            have hb4 : ∀ b ∈ [y0, y1, y2, y3], b < 256 := by intro b hb; simp at hb; omega
            have hMb := xorTo_bytes P (bytes_app (recL_bytes hl'.out (by rw [hn1'.out]; exact hsm)) hz'.out) hb4 k
            have hMl : (xorTo (recL l ++ z) P [y0, y1, y2, y3] k).length = n1 + 10 + n2 := by rw [xorTo_length, List.length_append, recL_length, hn1'.out, hn2'.out]
            obtain ⟨hle1, hle2⟩ := hTu.out.own.le
            have hbyt := hTu.out.own.byt
            have hMb' := Lib.hid hMb
            have hMl' := Lib.hid hMl
            have hbyt' := Lib.hid hbyt
            have hq' := Lib.hid hq
            have hlt' := Lib.hid hlt
            clear hMb hMl hbyt hb4 hq
            go_wp2_with fail
            refine (unpack_any (xorTo (recL l ++ z) P [y0, y1, y2, y3] k) 0 _ (n1 + 10 + n2) co wr.heap.size wr hMb'.out hMl'.out hle1 hle2 (by omega) (Nat.le_refl _) hbyt'.out).mono ?_
            rintro e w4 ⟨A4, c4, rfl, o4, hb4⟩
            have e0 : unpL (xorTo (recL l ++ z) P [y0, y1, y2, y3] k) 0 = unpF (xorTo (recL l ++ z) P [y0, y1, y2, y3] k) := by
              unfold unpL
              rw [if_neg (by omega)]
              rfl
            rw [e0] at o4 ⊢
            have hB4 := Lib.hid (hTu.out.bel.trans (hb4.mono hTu.out.bel.size))
            have ob := (hTu.out.box.keep hb4 (by omega)).1
            have hby := Lib.hid (hTu.out.byt.below (hb4.mono hTu.out.bel.size))
            have htur := hTu.out.tur
            clear e0 hb4 hTu hMb' hMl' hbyt'
            cases tb
            · have hM : xorTo (recL l ++ z) P [y0, y1, y2, y3] k = recL l ++ z := xorTo_none _ _ _ _ fun i hi => Classical.not_not.1 fun h => absurd (htur.2 ⟨i, hi, h⟩) (by decide)
              rw [hM, unpF_rec l z (by rw [hn1'.out]; exact hsm)] at o4 ⊢
              simp only [hn1'.out] at o4 ⊢
              have o4' := Lib.hid o4
              clear hM o4 htur
              go_wp2_with fail
              refine (same_eq A4 A1 c4 c1 n1 (fun j => ((l[j]?.getD 0 : Nat) : Int)) w4.heap.size w.heap.size w4 (by omega) (o4'.out.bs hn1'.out) (by have := hby.out; unfold Byt at this; rw [hn1'.out] at this; exact this)).mono ?_
              rintro e w5 ⟨rfl, m5, rfl⟩
              go_wp2_with fail
              go_ret
              exact ⟨rfl, below_drewN hB4.out m5⟩
            · have hbad := turned_bad l z [y0, y1, y2, y3] P k nn n1 hl'.out hz'.out (by intro b hb; simp at hb; omega) hn1'.out hsm hfor.out hk hPk (htur.1 rfl)
              have h2 := unpF_err hbad
              generalize unpF (xorTo (recL l ++ z) P [y0, y1, y2, y3] k) = r at hbad h2 o4 ⊢
              obtain ⟨E, r2⟩ := r
              simp only at h2 hbad
              subst h2
              have hE : ¬ ((E : Nat) : Int) = 0 := by omega
              clear o4 htur
              go_wp2_with fail
              go_ret
              exact ⟨ret_bool (by simp; omega), hB4.out⟩
      · go_wp2_with fail
        refine (joined_any (recL l) z Ap A2 (n1 + 10) n2 cp c2 w1.heap.size w1 (by rw [recL_length, hn1'.out]) hn2'.out (by omega) (by omega) (by omega) (Nat.le_refl _) op'.out.byt ((h2'.out.below hB1.out).mono hB1.out.size)).mono ?_
        rintro e w2 ⟨⟨Ao, co, rfl, oo⟩, hb2⟩
        obtain ⟨go, rfl⟩ := oo.head (by omega)
        have hT0 := turning0 (P := P) (R := recL l ++ z) oo hbox1.out hB1.out hb2 hsz h1'.out
        have hsz2 : w.heap.size + 1 ≤ w2.heap.size := Nat.le_trans hsz hb2.size
        clear oo hb2 op' hbox1 hB1 hT hs hL1 hL2 q0 q1 q6 q7
        go_wp2_with fail
        go_loopw [9, 10] (fun t i wr => ∃ (k : Nat) (tb : Bool), k ≤ nn ∧ P + k ≤ n1 + 10 ∧ i = .int .i64 k ∧ t = .bool tb ∧ w.heap.size + 1 ≤ wr.heap.size ∧ Hid (Turning w wr go co P k (n1 + 10 + n2) (recL l ++ z) tb l A1 (.slice A1 n1 c1) (.int .i64 At) (.bool false) (.slice A2 n2 c2) y0 y1 y2 y3)) (fun _ i _ => nn - (intOf i).toNat)
        case atStart => exact ⟨0, false, by omega, by omega, rfl, rfl, hsz2, hT0⟩
        case round =>
          clear hT0 hsz2
          obtain ⟨k, tb, hk, hPk, rfl, rfl, hsw, hTu⟩ := hrel
          by_cases hlt : k < nn ∧ P + k < n1 + 10
          · obtain ⟨hlt1, hlt2⟩ := hlt
            have hk4 : k < 4 := by rcases hfor.out with h | h <;> omega
            have q1 := hTu.out.own.cell (P + k) (by omega)
            rw [u8s_get _ (P + k) (by rw [xorTo_length, List.length_append, recL_length, hn1'.out]; omega)] at q1
            have q2 := hTu.out.own.frozen (P + k)
            have q3 := hTu.out.box.by_ k hk4
            have hb4 : ∀ b ∈ [y0, y1, y2, y3], b < 256 := by intro b hb; simp at hb; omega
            have ha := bytes_getD (xorTo_bytes P (bytes_app (recL_bytes hl'.out (by rw [hn1'.out]; exact hsm)) hz'.out) hb4 k) (P + k)
            have hb := bytes_getD hb4 k
            have hTd := (hTu.out.store (tb || decide ([y0, y1, y2, y3][k]?.getD 0 ≠ 0)) rfl hsw).drewN 1
            have hx := u8_xor_nat _ _ ha hb
            have hsw3 : w.heap.size + 1 ≤ ((wr.setCell ⟨go, P + k, none⟩ (.int .u8 ((((xorTo (recL l ++ z) P [y0, y1, y2, y3] k)[P + k]?.getD 0) ^^^ ([y0, y1, y2, y3][k]?.getD 0) : Nat) : Int))).drewN 1).heap.size := by simpa using hsw
            have q4 := hTd.box.by_ k hk4
            have hTd' := Lib.hid hTd
            clear hTd hTu
            generalize (xorTo (recL l ++ z) P [y0, y1, y2, y3] k)[P + k]?.getD 0 = a at *
            generalize [y0, y1, y2, y3][k]?.getD 0 = b at *
            have hi0 : (0 : Int) ≤ (P : Int) + (k : Int) := by omega
            have hi1 : (P : Int) + (k : Int) < (n1 : Int) + 10 + (n2 : Int) := by omega
            have hi2 : (k : Int) < 4 := by omega
            go_wp2_with fail
            go_region
            clear q1 q2 q3
            replace hTd' : Hid (Turning w ((wr.setCell ⟨go, P + k, none⟩ (.int .u8 ((a ^^^ b : Nat) : Int))).drew) go co P (k + 1) (n1 + 10 + n2) (recL l ++ z) (tb || decide (b ≠ 0)) l A1 (.slice A1 n1 c1) (.int .i64 At) (.bool false) (.slice A2 n2 c2) y0 y1 y2 y3) := hTd'
            replace q4 : ((wr.setCell ⟨go, P + k, none⟩ (.int .u8 ((a ^^^ b : Nat) : Int))).drew).cell? ⟨w.heap.size, 2 + k, none⟩ = some (.int .u8 (b : Int)) := q4
            replace hsw3 : w.heap.size + 1 ≤ ((wr.setCell ⟨go, P + k, none⟩ (.int .u8 ((a ^^^ b : Nat) : Int))).drew).heap.size := hsw3
            generalize (wr.setCell ⟨go, P + k, none⟩ (.int .u8 ((a ^^^ b : Nat) : Int))).drew = w3 at hTd' q4 hsw3 ⊢
            by_cases hb0 : b = 0
            · subst hb0
              cases tb
              all_goals go_wp2_with fail
              all_goals go_roundw
              all_goals first
                | exact ⟨k + 1, _, by omega, by omega, by go_num, rfl, hsw3, hTd'⟩
                | (simp [intOf]; omega)
            · have hb0' : ¬ (b : Int) = 0 := by omega
              have hTe : Hid (Turning w w3 go co P (k + 1) (n1 + 10 + n2) (recL l ++ z) true l A1 (.slice A1 n1 c1) (.int .i64 At) (.bool false) (.slice A2 n2 c2) y0 y1 y2 y3) := by
                have := hTd'
                rw [show (tb || decide (b ≠ 0)) = true by simp [hb0]] at this
                exact this
              clear hTd'
              cases tb
              all_goals go_wp2_with fail
              all_goals go_roundw
              all_goals first
                | exact ⟨k + 1, true, by omega, by omega, by go_num, rfl, hsw3, hTe⟩
                | exact ⟨k + 1, _, by omega, by omega, by go_num, rfl, hsw3, by (rw [show ((b : Int) != 0) = true from bne_iff_ne.2 hb0']); exact hTe⟩
                | (simp [intOf]; omega)
          · have hq : k = nn ∨ P + k = n1 + 10 := by omega
            have hb4 : ∀ b ∈ [y0, y1, y2, y3], b < 256 := by intro b hb; simp at hb; omega
            have hMb := xorTo_bytes P (bytes_app (recL_bytes hl'.out (by rw [hn1'.out]; exact hsm)) hz'.out) hb4 k
            have hMl : (xorTo (recL l ++ z) P [y0, y1, y2, y3] k).length = n1 + 10 + n2 := by rw [xorTo_length, List.length_append, recL_length, hn1'.out, hn2'.out]
            obtain ⟨hle1, hle2⟩ := hTu.out.own.le
            have hbyt := hTu.out.own.byt
            have hMb' := Lib.hid hMb
            have hMl' := Lib.hid hMl
            have hbyt' := Lib.hid hbyt
            have hq' := Lib.hid hq
            have hlt' := Lib.hid hlt
            clear hMb hMl hbyt hb4 hq
            go_wp2_with fail
            refine (unpack_any (xorTo (recL l ++ z) P [y0, y1, y2, y3] k) 0 _ (n1 + 10 + n2) co wr.heap.size wr hMb'.out hMl'.out hle1 hle2 (by omega) (Nat.le_refl _) hbyt'.out).mono ?_
            rintro e w4 ⟨A4, c4, rfl, o4, hb4⟩
            have e0 : unpL (xorTo (recL l ++ z) P [y0, y1, y2, y3] k) 0 = unpF (xorTo (recL l ++ z) P [y0, y1, y2, y3] k) := by
              unfold unpL
              rw [if_neg (by omega)]
              rfl
            rw [e0] at o4 ⊢
            have hB4 := Lib.hid (hTu.out.bel.trans (hb4.mono hTu.out.bel.size))
            have ob := (hTu.out.box.keep hb4 (by omega)).1
            have hby := Lib.hid (hTu.out.byt.below (hb4.mono hTu.out.bel.size))
            have htur := hTu.out.tur
            clear e0 hb4 hTu hMb' hMl' hbyt'
            cases tb
            · have hM : xorTo (recL l ++ z) P [y0, y1, y2, y3] k = recL l ++ z := xorTo_none _ _ _ _ fun i hi => Classical.not_not.1 fun h => absurd (htur.2 ⟨i, hi, h⟩) (by decide)
              rw [hM, unpF_rec l z (by rw [hn1'.out]; exact hsm)] at o4 ⊢
              simp only [hn1'.out] at o4 ⊢
              have o4' := Lib.hid o4
              clear hM o4 htur
              go_wp2_with fail
              refine (same_eq A4 A1 c4 c1 n1 (fun j => ((l[j]?.getD 0 : Nat) : Int)) w4.heap.size w.heap.size w4 (by omega) (o4'.out.bs hn1'.out) (by have := hby.out; unfold Byt at this; rw [hn1'.out] at this; exact this)).mono ?_
              rintro e w5 ⟨rfl, m5, rfl⟩
              go_wp2_with fail
              go_ret
              exact ⟨rfl, below_drewN hB4.out m5⟩
            · have hbad := turned_bad l z [y0, y1, y2, y3] P k nn n1 hl'.out hz'.out (by intro b hb; simp at hb; omega) hn1'.out hsm hfor.out hk hPk (htur.1 rfl)
              have h2 := unpF_err hbad
              generalize unpF (xorTo (recL l ++ z) P [y0, y1, y2, y3] k) = r at hbad h2 o4 ⊢
              obtain ⟨E, r2⟩ := r
              simp only at h2 hbad
              subst h2
              have hE : ¬ ((E : Nat) : Int) = 0 := by omega
              clear o4 htur
              go_wp2_with fail
              go_ret
              exact ⟨ret_bool (by simp; omega), hB4.out⟩
    · by_cases hn0 : n1 = 0
      · clear op hb1 hbox hb0
        subst hn0
        go_wp2_with fail
        refine (works_any _).mono ?_
        rintro e w5 ⟨rfl, hb5⟩
        go_wp2_with fail
        go_ret
        exact ⟨rfl, hB1.out.trans (hb5.mono hB1.out.size)⟩
      · have op' := Lib.hid op
        clear op hb1 hbox hb0
        have hL := tmod_in At (L := (n1 : Int)) (by omega)
        obtain ⟨T, hT⟩ : ∃ T, At.tmod (n1 : Int) = T := ⟨_, rfl⟩
        rw [hT] at hL
        obtain ⟨hL1, hL2⟩ := hL
        obtain ⟨Q, hP, hQn⟩ : ∃ Q : Nat, (T < 0 ∧ T + (n1 : Int) = Q ∨ ¬ T < 0 ∧ T = Q) ∧ Q < n1 := by
          by_cases hs : T < 0
          · exact ⟨(T + (n1 : Int)).toNat, .inl ⟨hs, by omega⟩, by omega⟩
          · exact ⟨T.toNat, .inr ⟨hs, by omega⟩, by omega⟩
        obtain ⟨P, hPQ, hPn⟩ : ∃ P : Nat, (Q : Int) + 10 = P ∧ P < n1 + 10 := ⟨Q + 10, by omega, by omega⟩
        obtain ⟨nn, hnn⟩ : ∃ nn, nn = 4 := ⟨_, rfl⟩
        have hfor : Hid (nn = 1 ∨ 10 ≤ P ∧ nn = 4) := Lib.hid (.inr ⟨by omega, hnn⟩)
        rcases hP with ⟨hs, hP⟩ | ⟨hs, hP⟩
        · have hP2 : T + ((n1 : Int) + 10) = P := by omega
          go_wp2_with fail
          refine (joined_any (recL l) z Ap A2 (n1 + 10) n2 cp c2 w1.heap.size w1 (by rw [recL_length, hn1'.out]) hn2'.out (by omega) (by omega) (by omega) (Nat.le_refl _) op'.out.byt ((h2'.out.below hB1.out).mono hB1.out.size)).mono ?_
          rintro e w2 ⟨⟨Ao, co, rfl, oo⟩, hb2⟩
          obtain ⟨go, rfl⟩ := oo.head (by omega)
          have hT0 := turning0 (P := P) (R := recL l ++ z) oo hbox1.out hB1.out hb2 hsz h1'.out
          have hsz2 : w.heap.size + 1 ≤ w2.heap.size := Nat.le_trans hsz hb2.size
          clear oo hb2 op' hbox1 hB1 hT hs hL1 hL2 q0 q1 q6 q7
          go_wp2_with fail
          go_loopw [9, 10] (fun t i wr => ∃ (k : Nat) (tb : Bool), k ≤ nn ∧ P + k ≤ n1 + 10 ∧ i = .int .i64 k ∧ t = .bool tb ∧ w.heap.size + 1 ≤ wr.heap.size ∧ Hid (Turning w wr go co P k (n1 + 10 + n2) (recL l ++ z) tb l A1 (.slice A1 n1 c1) (.int .i64 At) (.bool true) (.slice A2 n2 c2) y0 y1 y2 y3)) (fun _ i _ => nn - (intOf i).toNat)
          case atStart => exact ⟨0, false, by omega, by omega, rfl, rfl, hsz2, hT0⟩
          case round =>
            clear hT0 hsz2
            obtain ⟨k, tb, hk, hPk, rfl, rfl, hsw, hTu⟩ := hrel
            by_cases hlt : k < nn ∧ P + k < n1 + 10
            · obtain ⟨hlt1, hlt2⟩ := hlt
              have hk4 : k < 4 := by rcases hfor.out with h | h <;> omega
              have q1 := hTu.out.own.cell (P + k) (by omega)
              rw [u8s_get _ (P + k) (by rw [xorTo_length, List.length_append, recL_length, hn1'.out]; omega)] at q1
              have q2 := hTu.out.own.frozen (P + k)
              have q3 := hTu.out.box.by_ k hk4
              have hb4 : ∀ b ∈ [y0, y1, y2, y3], b < 256 := by intro b hb; simp at hb; omega
              have ha := bytes_getD (xorTo_bytes P (bytes_app (recL_bytes hl'.out (by rw [hn1'.out]; exact hsm)) hz'.out) hb4 k) (P + k)
              have hb := bytes_getD hb4 k
              have hTd := (hTu.out.store (tb || decide ([y0, y1, y2, y3][k]?.getD 0 ≠ 0)) rfl hsw).drewN 1
              have hx := u8_xor_nat _ _ ha hb
              have hsw3 : w.heap.size + 1 ≤ ((wr.setCell ⟨go, P + k, none⟩ (.int .u8 ((((xorTo (recL l ++ z) P [y0, y1, y2, y3] k)[P + k]?.getD 0) ^^^ ([y0, y1, y2, y3][k]?.getD 0) : Nat) : Int))).drewN 1).heap.size := by simpa using hsw
              have q4 := hTd.box.by_ k hk4
              have hTd' := Lib.hid hTd
              clear hTd hTu
              generalize (xorTo (recL l ++ z) P [y0, y1, y2, y3] k)[P + k]?.getD 0 = a at *
              generalize [y0, y1, y2, y3][k]?.getD 0 = b at *
              have hi0 : (0 : Int) ≤ (P : Int) + (k : Int) := by omega
              have hi1 : (P : Int) + (k : Int) < (n1 : Int) + 10 + (n2 : Int) := by omega
              have hi2 : (k : Int) < 4 := by omega
              go_wp2_with fail
              go_region
              clear q1 q2 q3
              replace hTd' : Hid (Turning w ((wr.setCell ⟨go, P + k, none⟩ (.int .u8 ((a ^^^ b : Nat) : Int))).drew) go co P (k + 1) (n1 + 10 + n2) (recL l ++ z) (tb || decide (b ≠ 0)) l A1 (.slice A1 n1 c1) (.int .i64 At) (.bool true) (.slice A2 n2 c2) y0 y1 y2 y3) := hTd'
              replace q4 : ((wr.setCell ⟨go, P + k, none⟩ (.int .u8 ((a ^^^ b : Nat) : Int))).drew).cell? ⟨w.heap.size, 2 + k, none⟩ = some (.int .u8 (b : Int)) := q4
              replace hsw3 : w.heap.size + 1 ≤ ((wr.setCell ⟨go, P + k, none⟩ (.int .u8 ((a ^^^ b : Nat) : Int))).drew).heap.size := hsw3
              generalize (wr.setCell ⟨go, P + k, none⟩ (.int .u8 ((a ^^^ b : Nat) : Int))).drew = w3 at hTd' q4 hsw3 ⊢
              by_cases hb0 : b = 0
              · subst hb0
                cases tb
                all_goals go_wp2_with fail
                all_goals go_roundw
                all_goals first
                  | exact ⟨k + 1, _, by omega, by omega, by go_num, rfl, hsw3, hTd'⟩
                  | (simp [intOf]; omega)
              · have hb0' : ¬ (b : Int) = 0 := by omega
                have hTe : Hid (Turning w w3 go co P (k + 1) (n1 + 10 + n2) (recL l ++ z) true l A1 (.slice A1 n1 c1) (.int .i64 At) (.bool true) (.slice A2 n2 c2) y0 y1 y2 y3) := by
                  have := hTd'
                  rw [show (tb || decide (b ≠ 0)) = true by simp [hb0]] at this
                  exact this
                clear hTd'
                cases tb
                all_goals go_wp2_with fail
                all_goals go_roundw
                all_goals first
                  | exact ⟨k + 1, true, by omega, by omega, by go_num, rfl, hsw3, hTe⟩
                  | exact ⟨k + 1, _, by omega, by omega, by go_num, rfl, hsw3, by (rw [show ((b : Int) != 0) = true from bne_iff_ne.2 hb0']); exact hTe⟩
                  | (simp [intOf]; omega)
            · have hq : k = nn ∨ P + k = n1 + 10 := by omega
              by_cases hkk : k < nn
              · have hb4 : ∀ b ∈ [y0, y1, y2, y3], b < 256 := by intro b hb; simp at hb; omega
                have hMb := xorTo_bytes P (bytes_app (recL_bytes hl'.out (by rw [hn1'.out]; exact hsm)) hz'.out) hb4 k
                have hMl : (xorTo (recL l ++ z) P [y0, y1, y2, y3] k).length = n1 + 10 + n2 := by rw [xorTo_length, List.length_append, recL_length, hn1'.out, hn2'.out]
                obtain ⟨hle1, hle2⟩ := hTu.out.own.le
                have hbyt := hTu.out.own.byt
                have hMb' := Lib.hid hMb
                have hMl' := Lib.hid hMl
                have hbyt' := Lib.hid hbyt
                have hq' := Lib.hid hq
                have hlt' := Lib.hid hlt
                clear hMb hMl hbyt hb4 hq
                go_wp2_with fail
                refine (unpack_any (xorTo (recL l ++ z) P [y0, y1, y2, y3] k) 0 _ (n1 + 10 + n2) co wr.heap.size wr hMb'.out hMl'.out hle1 hle2 (by omega) (Nat.le_refl _) hbyt'.out).mono ?_
                rintro e w4 ⟨A4, c4, rfl, o4, hb4⟩
                have e0 : unpL (xorTo (recL l ++ z) P [y0, y1, y2, y3] k) 0 = unpF (xorTo (recL l ++ z) P [y0, y1, y2, y3] k) := by
                  unfold unpL
                  rw [if_neg (by omega)]
                  rfl
                rw [e0] at o4 ⊢
                have hB4 := Lib.hid (hTu.out.bel.trans (hb4.mono hTu.out.bel.size))
                have ob := (hTu.out.box.keep hb4 (by omega)).1
                have hby := Lib.hid (hTu.out.byt.below (hb4.mono hTu.out.bel.size))
                have htur := hTu.out.tur
                clear e0 hb4 hTu hMb' hMl' hbyt'
                cases tb
                · have hM : xorTo (recL l ++ z) P [y0, y1, y2, y3] k = recL l ++ z := xorTo_none _ _ _ _ fun i hi => Classical.not_not.1 fun h => absurd (htur.2 ⟨i, hi, h⟩) (by decide)
                  rw [hM, unpF_rec l z (by rw [hn1'.out]; exact hsm)] at o4 ⊢
                  simp only [hn1'.out] at o4 ⊢
                  have o4' := Lib.hid o4
                  clear hM o4 htur
                  go_wp2_with fail
                  refine (same_eq A4 A1 c4 c1 n1 (fun j => ((l[j]?.getD 0 : Nat) : Int)) w4.heap.size w.heap.size w4 (by omega) (o4'.out.bs hn1'.out) (by have := hby.out; unfold Byt at this; rw [hn1'.out] at this; exact this)).mono ?_
                  rintro e w5 ⟨rfl, m5, rfl⟩
                  go_wp2_with fail
                  go_ret
                  exact ⟨rfl, below_drewN hB4.out m5⟩
                · have hbad := turned_bad l z [y0, y1, y2, y3] P k nn n1 hl'.out hz'.out (by intro b hb; simp at hb; omega) hn1'.out hsm hfor.out hk hPk (htur.1 rfl)
                  have h2 := unpF_err hbad
                  generalize unpF (xorTo (recL l ++ z) P [y0, y1, y2, y3] k) = r at hbad h2 o4 ⊢
                  obtain ⟨E, r2⟩ := r
                  simp only at h2 hbad
                  subst h2
                  have hE : ¬ ((E : Nat) : Int) = 0 := by omega
                  clear o4 htur
                  go_wp2_with fail
                  go_ret
                  exact ⟨ret_bool (by simp; omega), hB4.out⟩
              · have hb4 : ∀ b ∈ [y0, y1, y2, y3], b < 256 := by intro b hb; simp at hb; omega
                have hMb := xorTo_bytes P (bytes_app (recL_bytes hl'.out (by rw [hn1'.out]; exact hsm)) hz'.out) hb4 k
                have hMl : (xorTo (recL l ++ z) P [y0, y1, y2, y3] k).length = n1 + 10 + n2 := by rw [xorTo_length, List.length_append, recL_length, hn1'.out, hn2'.out]
                obtain ⟨hle1, hle2⟩ := hTu.out.own.le
                have hbyt := hTu.out.own.byt
                have hMb' := Lib.hid hMb
                have hMl' := Lib.hid hMl
                have hbyt' := Lib.hid hbyt
                have hq' := Lib.hid hq
                have hlt' := Lib.hid hlt
                clear hMb hMl hbyt hb4 hq
                go_wp2_with fail
                refine (unpack_any (xorTo (recL l ++ z) P [y0, y1, y2, y3] k) 0 _ (n1 + 10 + n2) co wr.heap.size wr hMb'.out hMl'.out hle1 hle2 (by omega) (Nat.le_refl _) hbyt'.out).mono ?_
                rintro e w4 ⟨A4, c4, rfl, o4, hb4⟩
                have e0 : unpL (xorTo (recL l ++ z) P [y0, y1, y2, y3] k) 0 = unpF (xorTo (recL l ++ z) P [y0, y1, y2, y3] k) := by
                  unfold unpL
                  rw [if_neg (by omega)]
                  rfl
                rw [e0] at o4 ⊢
                have hB4 := Lib.hid (hTu.out.bel.trans (hb4.mono hTu.out.bel.size))
                have ob := (hTu.out.box.keep hb4 (by omega)).1
                have hby := Lib.hid (hTu.out.byt.below (hb4.mono hTu.out.bel.size))
                have htur := hTu.out.tur
                clear e0 hb4 hTu hMb' hMl' hbyt'
                cases tb
                · have hM : xorTo (recL l ++ z) P [y0, y1, y2, y3] k = recL l ++ z := xorTo_none _ _ _ _ fun i hi => Classical.not_not.1 fun h => absurd (htur.2 ⟨i, hi, h⟩) (by decide)
                  rw [hM, unpF_rec l z (by rw [hn1'.out]; exact hsm)] at o4 ⊢
                  simp only [hn1'.out] at o4 ⊢
                  have o4' := Lib.hid o4
                  clear hM o4 htur
                  go_wp2_with fail
                  refine (same_eq A4 A1 c4 c1 n1 (fun j => ((l[j]?.getD 0 : Nat) : Int)) w4.heap.size w.heap.size w4 (by omega) (o4'.out.bs hn1'.out) (by have := hby.out; unfold Byt at this; rw [hn1'.out] at this; exact this)).mono ?_
                  rintro e w5 ⟨rfl, m5, rfl⟩
                  go_wp2_with fail
                  go_ret
                  exact ⟨rfl, below_drewN hB4.out m5⟩
                · have hbad := turned_bad l z [y0, y1, y2, y3] P k nn n1 hl'.out hz'.out (by intro b hb; simp at hb; omega) hn1'.out hsm hfor.out hk hPk (htur.1 rfl)
                  have h2 := unpF_err hbad
                  generalize unpF (xorTo (recL l ++ z) P [y0, y1, y2, y3] k) = r at hbad h2 o4 ⊢
                  obtain ⟨E, r2⟩ := r
                  simp only at h2 hbad
                  subst h2
                  have hE : ¬ ((E : Nat) : Int) = 0 := by omega
                  clear o4 htur
                  go_wp2_with fail
                  go_ret
                  exact ⟨ret_bool (by simp; omega), hB4.out⟩
        · go_wp2_with fail
          refine (joined_any (recL l) z Ap A2 (n1 + 10) n2 cp c2 w1.heap.size w1 (by rw [recL_length, hn1'.out]) hn2'.out (by omega) (by omega) (by omega) (Nat.le_refl _) op'.out.byt ((h2'.out.below hB1.out).mono hB1.out.size)).mono ?_
          rintro e w2 ⟨⟨Ao, co, rfl, oo⟩, hb2⟩
          obtain ⟨go, rfl⟩ := oo.head (by omega)
          have hT0 := turning0 (P := P) (R := recL l ++ z) oo hbox1.out hB1.out hb2 hsz h1'.out
          have hsz2 : w.heap.size + 1 ≤ w2.heap.size := Nat.le_trans hsz hb2.size
          clear oo hb2 op' hbox1 hB1 hT hs hL1 hL2 q0 q1 q6 q7
          go_wp2_with fail
          go_loopw [9, 10] (fun t i wr => ∃ (k : Nat) (tb : Bool), k ≤ nn ∧ P + k ≤ n1 + 10 ∧ i = .int .i64 k ∧ t = .bool tb ∧ w.heap.size + 1 ≤ wr.heap.size ∧ Hid (Turning w wr go co P k (n1 + 10 + n2) (recL l ++ z) tb l A1 (.slice A1 n1 c1) (.int .i64 At) (.bool true) (.slice A2 n2 c2) y0 y1 y2 y3)) (fun _ i _ => nn - (intOf i).toNat)
          case atStart => exact ⟨0, false, by omega, by omega, rfl, rfl, hsz2, hT0⟩
          case round =>
            clear hT0 hsz2
            obtain ⟨k, tb, hk, hPk, rfl, rfl, hsw, hTu⟩ := hrel
            by_cases hlt : k < nn ∧ P + k < n1 + 10
            · obtain ⟨hlt1, hlt2⟩ := hlt
              have hk4 : k < 4 := by rcases hfor.out with h | h <;> omega
              have q1 := hTu.out.own.cell (P + k) (by omega)
              rw [u8s_get _ (P + k) (by rw [xorTo_length, List.length_append, recL_length, hn1'.out]; omega)] at q1
              have q2 := hTu.out.own.frozen (P + k)
              have q3 := hTu.out.box.by_ k hk4
              have hb4 : ∀ b ∈ [y0, y1, y2, y3], b < 256 := by intro b hb; simp at hb; omega
              have ha := bytes_getD (xorTo_bytes P (bytes_app (recL_bytes hl'.out (by rw [hn1'.out]; exact hsm)) hz'.out) hb4 k) (P + k)
              have hb := bytes_getD hb4 k
              have hTd := (hTu.out.store (tb || decide ([y0, y1, y2, y3][k]?.getD 0 ≠ 0)) rfl hsw).drewN 1
              have hx := u8_xor_nat _ _ ha hb
              have hsw3 : w.heap.size + 1 ≤ ((wr.setCell ⟨go, P + k, none⟩ (.int .u8 ((((xorTo (recL l ++ z) P [y0, y1, y2, y3] k)[P + k]?.getD 0) ^^^ ([y0, y1, y2, y3][k]?.getD 0) : Nat) : Int))).drewN 1).heap.size := by simpa using hsw
              have q4 := hTd.box.by_ k hk4
              have hTd' := Lib.hid hTd
              clear hTd hTu
              generalize (xorTo (recL l ++ z) P [y0, y1, y2, y3] k)[P + k]?.getD 0 = a at *
              generalize [y0, y1, y2, y3][k]?.getD 0 = b at *
              have hi0 : (0 : Int) ≤ (P : Int) + (k : Int) := by omega
              have hi1 : (P : Int) + (k : Int) < (n1 : Int) + 10 + (n2 : Int) := by omega
              have hi2 : (k : Int) < 4 := by omega
              go_wp2_with fail
              go_region
              clear q1 q2 q3
              replace hTd' : Hid (Turning w ((wr.setCell ⟨go, P + k, none⟩ (.int .u8 ((a ^^^ b : Nat) : Int))).drew) go co P (k + 1) (n1 + 10 + n2) (recL l ++ z) (tb || decide (b ≠ 0)) l A1 (.slice A1 n1 c1) (.int .i64 At) (.bool true) (.slice A2 n2 c2) y0 y1 y2 y3) := hTd'
              replace q4 : ((wr.setCell ⟨go, P + k, none⟩ (.int .u8 ((a ^^^ b : Nat) : Int))).drew).cell? ⟨w.heap.size, 2 + k, none⟩ = some (.int .u8 (b : Int)) := q4
              replace hsw3 : w.heap.size + 1 ≤ ((wr.setCell ⟨go, P + k, none⟩ (.int .u8 ((a ^^^ b : Nat) : Int))).drew).heap.size := hsw3
              generalize (wr.setCell ⟨go, P + k, none⟩ (.int .u8 ((a ^^^ b : Nat) : Int))).drew = w3 at hTd' q4 hsw3 ⊢
              by_cases hb0 : b = 0
              · subst hb0
                cases tb
                all_goals go_wp2_with fail
                all_goals go_roundw
                all_goals first
                  | exact ⟨k + 1, _, by omega, by omega, by go_num, rfl, hsw3, hTd'⟩
                  | (simp [intOf]; omega)
              · have hb0' : ¬ (b : Int) = 0 := by omega
                have hTe : Hid (Turning w w3 go co P (k + 1) (n1 + 10 + n2) (recL l ++ z) true l A1 (.slice A1 n1 c1) (.int .i64 At) (.bool true) (.slice A2 n2 c2) y0 y1 y2 y3) := by
                  have := hTd'
                  rw [show (tb || decide (b ≠ 0)) = true by simp [hb0]] at this
                  exact this
                clear hTd'
                cases tb
                all_goals go_wp2_with fail
                all_goals go_roundw
                all_goals first
                  | exact ⟨k + 1, true, by omega, by omega, by go_num, rfl, hsw3, hTe⟩
                  | exact ⟨k + 1, _, by omega, by omega, by go_num, rfl, hsw3, by (rw [show ((b : Int) != 0) = true from bne_iff_ne.2 hb0']); exact hTe⟩
                  | (simp [intOf]; omega)
            · have hq : k = nn ∨ P + k = n1 + 10 := by omega
              by_cases hkk : k < nn
              · have hb4 : ∀ b ∈ [y0, y1, y2, y3], b < 256 := by intro b hb; simp at hb; omega
                have hMb := xorTo_bytes P (bytes_app (recL_bytes hl'.out (by rw [hn1'.out]; exact hsm)) hz'.out) hb4 k
                have hMl : (xorTo (recL l ++ z) P [y0, y1, y2, y3] k).length = n1 + 10 + n2 := by rw [xorTo_length, List.length_append, recL_length, hn1'.out, hn2'.out]
                obtain ⟨hle1, hle2⟩ := hTu.out.own.le
                have hbyt := hTu.out.own.byt
                have hMb' := Lib.hid hMb
                have hMl' := Lib.hid hMl
                have hbyt' := Lib.hid hbyt
                have hq' := Lib.hid hq
                have hlt' := Lib.hid hlt
                clear hMb hMl hbyt hb4 hq
                go_wp2_with fail
                refine (unpack_any (xorTo (recL l ++ z) P [y0, y1, y2, y3] k) 0 _ (n1 + 10 + n2) co wr.heap.size wr hMb'.out hMl'.out hle1 hle2 (by omega) (Nat.le_refl _) hbyt'.out).mono ?_
                rintro e w4 ⟨A4, c4, rfl, o4, hb4⟩
                have e0 : unpL (xorTo (recL l ++ z) P [y0, y1, y2, y3] k) 0 = unpF (xorTo (recL l ++ z) P [y0, y1, y2, y3] k) := by
                  unfold unpL
                  rw [if_neg (by omega)]
                  rfl
                rw [e0] at o4 ⊢
                have hB4 := Lib.hid (hTu.out.bel.trans (hb4.mono hTu.out.bel.size))
                have ob := (hTu.out.box.keep hb4 (by omega)).1
                have hby := Lib.hid (hTu.out.byt.below (hb4.mono hTu.out.bel.size))
                have htur := hTu.out.tur
                clear e0 hb4 hTu hMb' hMl' hbyt'
                cases tb
                · have hM : xorTo (recL l ++ z) P [y0, y1, y2, y3] k = recL l ++ z := xorTo_none _ _ _ _ fun i hi => Classical.not_not.1 fun h => absurd (htur.2 ⟨i, hi, h⟩) (by decide)
                  rw [hM, unpF_rec l z (by rw [hn1'.out]; exact hsm)] at o4 ⊢
                  simp only [hn1'.out] at o4 ⊢
                  have o4' := Lib.hid o4
                  clear hM o4 htur
                  go_wp2_with fail
                  refine (same_eq A4 A1 c4 c1 n1 (fun j => ((l[j]?.getD 0 : Nat) : Int)) w4.heap.size w.heap.size w4 (by omega) (o4'.out.bs hn1'.out) (by have := hby.out; unfold Byt at this; rw [hn1'.out] at this; exact this)).mono ?_
                  rintro e w5 ⟨rfl, m5, rfl⟩
                  go_wp2_with fail
                  go_ret
                  exact ⟨rfl, below_drewN hB4.out m5⟩
                · have hbad := turned_bad l z [y0, y1, y2, y3] P k nn n1 hl'.out hz'.out (by intro b hb; simp at hb; omega) hn1'.out hsm hfor.out hk hPk (htur.1 rfl)
                  have h2 := unpF_err hbad
                  generalize unpF (xorTo (recL l ++ z) P [y0, y1, y2, y3] k) = r at hbad h2 o4 ⊢
                  obtain ⟨E, r2⟩ := r
                  simp only at h2 hbad
                  subst h2
                  have hE : ¬ ((E : Nat) : Int) = 0 := by omega
                  clear o4 htur
                  go_wp2_with fail
                  go_ret
                  exact ⟨ret_bool (by simp; omega), hB4.out⟩
              · have hb4 : ∀ b ∈ [y0, y1, y2, y3], b < 256 := by intro b hb; simp at hb; omega
                have hMb := xorTo_bytes P (bytes_app (recL_bytes hl'.out (by rw [hn1'.out]; exact hsm)) hz'.out) hb4 k
                have hMl : (xorTo (recL l ++ z) P [y0, y1, y2, y3] k).length = n1 + 10 + n2 := by rw [xorTo_length, List.length_append, recL_length, hn1'.out, hn2'.out]
                obtain ⟨hle1, hle2⟩ := hTu.out.own.le
                have hbyt := hTu.out.own.byt
                have hMb' := Lib.hid hMb
                have hMl' := Lib.hid hMl
                have hbyt' := Lib.hid hbyt
                have hq' := Lib.hid hq
                have hlt' := Lib.hid hlt
                clear hMb hMl hbyt hb4 hq
                go_wp2_with fail
                refine (unpack_any (xorTo (recL l ++ z) P [y0, y1, y2, y3] k) 0 _ (n1 + 10 + n2) co wr.heap.size wr hMb'.out hMl'.out hle1 hle2 (by omega) (Nat.le_refl _) hbyt'.out).mono ?_
                rintro e w4 ⟨A4, c4, rfl, o4, hb4⟩
                have e0 : unpL (xorTo (recL l ++ z) P [y0, y1, y2, y3] k) 0 = unpF (xorTo (recL l ++ z) P [y0, y1, y2, y3] k) := by
                  unfold unpL
                  rw [if_neg (by omega)]
                  rfl
                rw [e0] at o4 ⊢
                have hB4 := Lib.hid (hTu.out.bel.trans (hb4.mono hTu.out.bel.size))
                have ob := (hTu.out.box.keep hb4 (by omega)).1
                have hby := Lib.hid (hTu.out.byt.below (hb4.mono hTu.out.bel.size))
                have htur := hTu.out.tur
                clear e0 hb4 hTu hMb' hMl' hbyt'
                cases tb
                · have hM : xorTo (recL l ++ z) P [y0, y1, y2, y3] k = recL l ++ z := xorTo_none _ _ _ _ fun i hi => Classical.not_not.1 fun h => absurd (htur.2 ⟨i, hi, h⟩) (by decide)
                  rw [hM, unpF_rec l z (by rw [hn1'.out]; exact hsm)] at o4 ⊢
                  simp only [hn1'.out] at o4 ⊢
                  have o4' := Lib.hid o4
                  clear hM o4 htur
                  go_wp2_with fail
                  refine (same_eq A4 A1 c4 c1 n1 (fun j => ((l[j]?.getD 0 : Nat) : Int)) w4.heap.size w.heap.size w4 (by omega) (o4'.out.bs hn1'.out) (by have := hby.out; unfold Byt at this; rw [hn1'.out] at this; exact this)).mono ?_
                  rintro e w5 ⟨rfl, m5, rfl⟩
                  go_wp2_with fail
                  go_ret
                  exact ⟨rfl, below_drewN hB4.out m5⟩
                · have hbad := turned_bad l z [y0, y1, y2, y3] P k nn n1 hl'.out hz'.out (by intro b hb; simp at hb; omega) hn1'.out hsm hfor.out hk hPk (htur.1 rfl)
                  have h2 := unpF_err hbad
                  generalize unpF (xorTo (recL l ++ z) P [y0, y1, y2, y3] k) = r at hbad h2 o4 ⊢
                  obtain ⟨E, r2⟩ := r
                  simp only at h2 hbad
                  subst h2
                  have hE : ¬ ((E : Nat) : Int) = 0 := by omega
                  clear o4 htur
                  go_wp2_with fail
                  go_ret
                  exact ⟨ret_bool (by simp; omega), hB4.out⟩
  · clear hb1 hbox hb0
    go_wp2_with fail
    go_ret
    exact ⟨rfl, hB1.out⟩
end Go.Proofs.Ytjofpjioaiamhaa

/- FrameCut: the law's walk. -/
import Derived.Test.YtjofpjioaiamhaaTurnedLaw
import Derived.Test.YtjofpjioaiamhaaEnd
namespace Go.Proofs.Ytjofpjioaiamhaa
open Go.RowKit Go.Shelf Go.ChangeShapes Go.WideShapes

theorem Own.take_byt {w : World} {B e n c g : Nat} {l : List Nat} (h : Own w B e 1 (some ⟨g, 0, none⟩) n c (u8s l)) (k : Nat) (hk : k ≤ n) : Byt w w.heap.size (some ⟨g, 0, none⟩) (l.take k) := by
  have hl : l.length = n := by have := h.len; rw [u8s_length] at this; omega
  have h1 := Rd.take h.byt (m := k) (by omega)
  have h2 : (l.take k).length = k := by rw [List.length_take]; omega
  unfold Byt
  rw [h2]
  exact h1.congr fun j hj => by rw [List.getElem?_take_of_lt hj]

set_option maxRecDepth 20000 in
set_option maxHeartbeats 4000000 in
theorem cut_any (l z : List Nat) (At : Int) (y0 y1 y2 y3 : Nat) (four : Bool) (A1 A2 : Option Addr) (n1 n2 c1 c2 : Nat) (w : World) (hl : ∀ b ∈ l, b < 256) (hz : ∀ b ∈ z, b < 256)
    (hn1 : l.length = n1) (hn2 : z.length = n2) (h1m : n1 ≤ 140737488351232) (h2m : n2 ≤ 140737488351232) (h1 : Byt w w.heap.size A1 l) (h2 : Byt w w.heap.size A2 z) :
    Calls Try.prog 8 #[.agg #[.slice A1 n1 c1, .int .i64 At, .int .u8 y0, .int .u8 y1, .int .u8 y2, .int .u8 y3, .bool four, .slice A2 n2 c2]] w fun e w' => e = .returned (.bool true) ∧ Below w.heap.size w w' := by
  have hl' := Lib.hid hl
  have hz' := Lib.hid hz
  have hn1' := Lib.hid hn1
  have hn2' := Lib.hid hn2
  have h1' := Lib.hid h1
  have h2' := Lib.hid h2
  have hb0 := Lib.hid ((Below.refl w.heap.size w).alloc (Nat.le_refl _) (.cells #[.slice A1 n1 c1, .int .i64 At, .int .u8 y0, .int .u8 y1, .int .u8 y2, .int .u8 y3, .bool four, .slice A2 n2 c2] 31))
  have hbox := Lib.hid (Box8.new w 31 (.slice A1 n1 c1) (.int .i64 At) (.int .u8 y0) (.int .u8 y1) (.int .u8 y2) (.int .u8 y3) (.bool four) (.slice A2 n2 c2))
  clear hl hz hn1 hn2 h1 h2
  go_enter Try.func8, Try.ntmps8
  go_wp2_with fail
  refine (pack_any l A1 n1 c1 w.heap.size _ hl'.out hn1'.out (by omega) (by simp) (h1'.out.below hb0.out)).mono ?_
  rintro e w1 ⟨hp, hb1⟩
  have hB1 := Lib.hid (hb0.out.trans (hb1.mono (by simp)))
  have hbox1 := hbox.out.keep hb1 (by simp)
  have hsz : w.heap.size + 1 ≤ w1.heap.size := by have := hb1.size; simpa using this
  obtain ⟨q0, q1, _, _, _, _, _, q7⟩ := hbox1
  clear hb1 hbox hb0
  rcases hp with ⟨Ap, cp, rfl, op, hsm⟩ | ⟨rfl, hbig⟩
  · obtain ⟨gp, rfl⟩ := op.head (by omega)
    obtain ⟨hcp1, hcp2⟩ := op.le
    have hcp3 := hcp2
    unfold maxLen at hcp3
    have op' := Lib.hid op
    clear op
    have hL := tmod_in At (L := (n1 : Int) + 10) (by omega)
    obtain ⟨T, hT⟩ : ∃ T, At.tmod ((n1 : Int) + 10) = T := ⟨_, rfl⟩
    rw [hT] at hL
    obtain ⟨hL1, hL2⟩ := hL
    obtain ⟨P, hP, hPn⟩ : ∃ P : Nat, (T < 0 ∧ T + ((n1 : Int) + 10) = P ∨ ¬ T < 0 ∧ T = P) ∧ P < n1 + 10 := by
      by_cases hs : T < 0
      · exact ⟨(T + ((n1 : Int) + 10)).toNat, .inl ⟨hs, by omega⟩, by omega⟩
      · exact ⟨T.toNat, .inr ⟨hs, by omega⟩, by omega⟩
    have iP0 : (0 : Int) ≤ (P : Int) := by omega
    have iP1 : (P : Int) ≤ (cp : Int) := by omega
    have hlen : ((recL l).take P).length = P := by rw [List.length_take, recL_length, hn1'.out]; omega
    have hcut := unpF_cut l P (by rw [hn1'.out]; exact hsm) (by rw [hn1'.out]; exact hPn)
    have hby : ∀ b ∈ (recL l).take P, b < 256 := fun b hb => recL_bytes hl'.out (by rw [hn1'.out]; exact hsm) b (List.mem_of_mem_take hb)
    have hu := Lib.hid (unpack_any ((recL l).take P) 0 (some ⟨gp, 0, none⟩) P cp w1.heap.size w1 hby hlen (by omega) hcp2 (by omega) (Nat.le_refl _) (op'.out.take_byt P (by omega)))
    have hres := endAns_bad hcut
    have herr := unpF_err hcut
    have e1 : unpL ((recL l).take P) 0 = unpF ((recL l).take P) := by
      unfold unpL
      rw [if_neg (by omega)]
      rfl
    rw [e1] at hu
    rw [hlen] at hres
    have hEnd := Lib.hid fun w2 h1 h2 => end_any ((recL l).take P) (some ⟨gp, 0, none⟩) P cp w1.heap.size w2 hby hlen (by omega) hcp2 (by omega) h1 h2
    rw [hres] at hEnd
    clear hlen e1 hres
    have hby' := Lib.hid hby
    clear hby
    obtain ⟨err, hE⟩ : ∃ err, (unpF ((recL l).take P)).1 = err := ⟨_, rfl⟩
    have hr : unpF ((recL l).take P) = (err, 0, []) := by rw [← hE, ← herr]
    rw [hE] at hcut hEnd
    rw [hr] at hu
    clear hE herr hr
    obtain ⟨r, hrr⟩ : ∃ r, Hid ((if P = 0 then 0 else err) = r) := ⟨_, Lib.hid rfl⟩
    rw [hrr.out] at hEnd
    rcases hP with ⟨hs, hP⟩ | ⟨hs, hP⟩
    · go_wp2_with (go_at_call 14; refine hu.out.mono ?_; rintro e w2 ⟨A3, c3, rfl, o3, hb2⟩; simp only [List.length_nil])
      have hB2 := Lib.hid (hB1.out.trans (hb2.mono hB1.out.size))
      have op2 := Lib.hid (op'.out.below hb2 (fun k hk => (op'.out.lt k hk).2))
      have u0 := (hb2.cell (p := ⟨w.heap.size, 0, none⟩) (by simp; omega)).trans q0
      have u7 := (hb2.cell (p := ⟨w.heap.size, 7, none⟩) (by simp; omega)).trans q7
      have hsz2 := hb2.size
      clear o3 hu q0 q1 q7 hT
      refine (hEnd.out w2 hb2.size (op'.out.take_byt P (by omega) |>.below hb2)).mono ?_
      rintro e w3 ⟨rfl, hb3⟩
      have hB3 := Lib.hid (hB2.out.trans (hb3.mono hB2.out.size))
      have op3 := Lib.hid (op2.out.below hb3 (fun k hk => (op2.out.lt k hk).2))
      have v0 := (hb3.cell (p := ⟨w.heap.size, 0, none⟩) (by simp; omega)).trans u0
      have v7 := (hb3.cell (p := ⟨w.heap.size, 7, none⟩) (by simp; omega)).trans u7
      have hsz3 := hb3.size
      clear hb2 hb3 u0 u7 hEnd op' op2 hB1 hB2
      have hj := Lib.hid (joined_any (recL l) z (some ⟨gp, 0, none⟩) A2 (n1 + 10) n2 cp c2 w3.heap.size w3 (by rw [recL_length, hn1'.out]) hn2'.out (by omega) (by omega) (by omega) (Nat.le_refl _) op3.out.byt ((h2'.out.below hB3.out).mono hB3.out.size))
      have hP0 : 0 < P := by omega
      have hr0 : ¬ r = 0 := by rw [← hrr.out, if_neg (by omega)]; exact hcut
      have d1 : decide (0 < (P : Int)) = true := by simp; omega
      have d2 : ((r : Int) != 0) = true := by simp; omega
      go_wp2_with fail
      refine hj.out.mono ?_
      rintro e w4 ⟨⟨Ao, co, rfl, oo⟩, hb4⟩
      obtain ⟨hle1, hle2⟩ := oo.le
      have hB4 := Lib.hid (hB3.out.trans (hb4.mono hB3.out.size))
      have x0 := (hb4.cell (p := ⟨w.heap.size, 0, none⟩) (by simp; omega)).trans v0
      have hsz4 := hb4.size
      have hu2 := unpack_any (recL l ++ z) 0 Ao (n1 + 10 + n2) co w4.heap.size w4 (bytes_app (recL_bytes hl'.out (by rw [hn1'.out]; exact hsm)) hz'.out) (by rw [List.length_append, recL_length, hn1'.out, hn2'.out]) hle1 hle2 (by omega) (Nat.le_refl _) oo.byt
      have e2 : unpL (recL l ++ z) 0 = (0, n1 + 10, l) := by
        unfold unpL
        rw [if_neg (by omega)]
        have := unpF_rec l z (by rw [hn1'.out]; exact hsm)
        rw [hn1'.out] at this
        exact this
      rw [e2] at hu2
      clear hj v0 v7 op3 oo hb4 hB3 e2
      have hu2' := Lib.hid hu2
      clear hu2
      go_wp2_with fail
      refine hu2'.out.mono ?_
      rintro e w5 ⟨A5, c5, rfl, o5, hb5⟩
      simp only [hn1'.out] at o5 ⊢
      have hB5 := Lib.hid (hB4.out.trans (hb5.mono hB4.out.size))
      have y0 := (hb5.cell (p := ⟨w.heap.size, 0, none⟩) (by simp; omega)).trans x0
      have hs := Lib.hid (same_eq A5 A1 c5 c1 n1 (fun j => ((l[j]?.getD 0 : Nat) : Int)) _ _ w5 (by omega) (o5.bs hn1'.out) (by have := h1'.out.below hB5.out; unfold Byt at this; rw [hn1'.out] at this; exact this))
      clear hu2' hB4 x0 o5 hb5
      go_wp2_with (go_at_call 15; refine hs.out.mono ?_; rintro e w' ⟨rfl, m, rfl⟩)
      go_ret
      exact ⟨ret_bool (by simp), below_drewN hB5.out m⟩
    · go_wp2_with (go_at_call 14; refine hu.out.mono ?_; rintro e w2 ⟨A3, c3, rfl, o3, hb2⟩; simp only [List.length_nil])
      have hB2 := Lib.hid (hB1.out.trans (hb2.mono hB1.out.size))
      have op2 := Lib.hid (op'.out.below hb2 (fun k hk => (op'.out.lt k hk).2))
      have u0 := (hb2.cell (p := ⟨w.heap.size, 0, none⟩) (by simp; omega)).trans q0
      have u7 := (hb2.cell (p := ⟨w.heap.size, 7, none⟩) (by simp; omega)).trans q7
      have hsz2 := hb2.size
      clear o3 hu q0 q1 q7 hT
      refine (hEnd.out w2 hb2.size (op'.out.take_byt P (by omega) |>.below hb2)).mono ?_
      rintro e w3 ⟨rfl, hb3⟩
      have hB3 := Lib.hid (hB2.out.trans (hb3.mono hB2.out.size))
      have op3 := Lib.hid (op2.out.below hb3 (fun k hk => (op2.out.lt k hk).2))
      have v0 := (hb3.cell (p := ⟨w.heap.size, 0, none⟩) (by simp; omega)).trans u0
      have v7 := (hb3.cell (p := ⟨w.heap.size, 7, none⟩) (by simp; omega)).trans u7
      have hsz3 := hb3.size
      clear hb2 hb3 u0 u7 hEnd op' op2 hB1 hB2
      have hj := Lib.hid (joined_any (recL l) z (some ⟨gp, 0, none⟩) A2 (n1 + 10) n2 cp c2 w3.heap.size w3 (by rw [recL_length, hn1'.out]) hn2'.out (by omega) (by omega) (by omega) (Nat.le_refl _) op3.out.byt ((h2'.out.below hB3.out).mono hB3.out.size))
      rcases Nat.eq_zero_or_pos P with hP0 | hP0
      · have hr0 : r = 0 := by rw [← hrr.out, if_pos hP0]
        have d1 : decide (0 < (P : Int)) = false := by simp; omega
        subst hr0
        go_wp2_with fail
        refine hj.out.mono ?_
        rintro e w4 ⟨⟨Ao, co, rfl, oo⟩, hb4⟩
        obtain ⟨hle1, hle2⟩ := oo.le
        have hB4 := Lib.hid (hB3.out.trans (hb4.mono hB3.out.size))
        have x0 := (hb4.cell (p := ⟨w.heap.size, 0, none⟩) (by simp; omega)).trans v0
        have hsz4 := hb4.size
        have hu2 := unpack_any (recL l ++ z) 0 Ao (n1 + 10 + n2) co w4.heap.size w4 (bytes_app (recL_bytes hl'.out (by rw [hn1'.out]; exact hsm)) hz'.out) (by rw [List.length_append, recL_length, hn1'.out, hn2'.out]) hle1 hle2 (by omega) (Nat.le_refl _) oo.byt
        have e2 : unpL (recL l ++ z) 0 = (0, n1 + 10, l) := by
          unfold unpL
          rw [if_neg (by omega)]
          have := unpF_rec l z (by rw [hn1'.out]; exact hsm)
          rw [hn1'.out] at this
          exact this
        rw [e2] at hu2
        clear hj v0 v7 op3 oo hb4 hB3 e2
        have hu2' := Lib.hid hu2
        clear hu2
        go_wp2_with fail
        refine hu2'.out.mono ?_
        rintro e w5 ⟨A5, c5, rfl, o5, hb5⟩
        simp only [hn1'.out] at o5 ⊢
        have hB5 := Lib.hid (hB4.out.trans (hb5.mono hB4.out.size))
        have y0 := (hb5.cell (p := ⟨w.heap.size, 0, none⟩) (by simp; omega)).trans x0
        have hs := Lib.hid (same_eq A5 A1 c5 c1 n1 (fun j => ((l[j]?.getD 0 : Nat) : Int)) _ _ w5 (by omega) (o5.bs hn1'.out) (by have := h1'.out.below hB5.out; unfold Byt at this; rw [hn1'.out] at this; exact this))
        clear hu2' hB4 x0 o5 hb5
        go_wp2_with (go_at_call 15; refine hs.out.mono ?_; rintro e w' ⟨rfl, m, rfl⟩)
        go_ret
        exact ⟨ret_bool (by simp), below_drewN hB5.out m⟩
      · have hr0 : ¬ r = 0 := by rw [← hrr.out, if_neg (by omega)]; exact hcut
        have d1 : decide (0 < (P : Int)) = true := by simp; omega
        have d2 : ((r : Int) != 0) = true := by simp; omega
        go_wp2_with fail
        refine hj.out.mono ?_
        rintro e w4 ⟨⟨Ao, co, rfl, oo⟩, hb4⟩
        obtain ⟨hle1, hle2⟩ := oo.le
        have hB4 := Lib.hid (hB3.out.trans (hb4.mono hB3.out.size))
        have x0 := (hb4.cell (p := ⟨w.heap.size, 0, none⟩) (by simp; omega)).trans v0
        have hsz4 := hb4.size
        have hu2 := unpack_any (recL l ++ z) 0 Ao (n1 + 10 + n2) co w4.heap.size w4 (bytes_app (recL_bytes hl'.out (by rw [hn1'.out]; exact hsm)) hz'.out) (by rw [List.length_append, recL_length, hn1'.out, hn2'.out]) hle1 hle2 (by omega) (Nat.le_refl _) oo.byt
        have e2 : unpL (recL l ++ z) 0 = (0, n1 + 10, l) := by
          unfold unpL
          rw [if_neg (by omega)]
          have := unpF_rec l z (by rw [hn1'.out]; exact hsm)
          rw [hn1'.out] at this
          exact this
        rw [e2] at hu2
        clear hj v0 v7 op3 oo hb4 hB3 e2
        have hu2' := Lib.hid hu2
        clear hu2
        go_wp2_with fail
        refine hu2'.out.mono ?_
        rintro e w5 ⟨A5, c5, rfl, o5, hb5⟩
        simp only [hn1'.out] at o5 ⊢
        have hB5 := Lib.hid (hB4.out.trans (hb5.mono hB4.out.size))
        have y0 := (hb5.cell (p := ⟨w.heap.size, 0, none⟩) (by simp; omega)).trans x0
        have hs := Lib.hid (same_eq A5 A1 c5 c1 n1 (fun j => ((l[j]?.getD 0 : Nat) : Int)) _ _ w5 (by omega) (o5.bs hn1'.out) (by have := h1'.out.below hB5.out; unfold Byt at this; rw [hn1'.out] at this; exact this))
        clear hu2' hB4 x0 o5 hb5
        go_wp2_with (go_at_call 15; refine hs.out.mono ?_; rintro e w' ⟨rfl, m, rfl⟩)
        go_ret
        exact ⟨ret_bool (by simp), below_drewN hB5.out m⟩
  · go_wp2_with fail
    go_ret
    exact ⟨ret_bool (by simp), hB1.out⟩

theorem frameCut_calls {H : Type} {enc : TypeId × Value → H} (W : World) (base : Nat) (v0 : Value) (d0 : DataW H) (p0 : List MemPlace)
    (o0 : Value.okWide Try.prog W .any base 31 v0) (h0 : DataW.Trod enc Try.prog W 0 (fun _ => true) true 31 v0 d0 p0)
    (hsz : (DataW.weightsEach Try.prog [31] [d0]).all (· ≤ reachBytes) = true) :
    Calls Try.prog 8 #[v0] W fun e W' => e = .returned (.bool true) ∧ Below W.heap.size W W' := by
  obtain ⟨l, z, At, y0, y1, y2, y3, four, A1, A2, q1, q2, rfl, b1, b2, hy0, hy1, hy2, hy3, l1, l2, r1, r2, _⟩ := turn_open W base v0 d0 p0 o0 h0 hsz
  exact cut_any l z At y0 y1 y2 y3 four A1 A2 l.length z.length q1 q2 W b1 b2 rfl rfl l1 l2 r1 r2
end Go.Proofs.Ytjofpjioaiamhaa

/- GearStreams: the law's walk. -/
import Derived.Test.YtnjbpacnmiimlaaDoorGtZ
import Derived.Deep.CutRange
namespace Go.Proofs.YtnjbpacnmiimlaaDoor
open Go.RowKit
set_option linter.unusedVariables false

/-- A step of the script. -/
structure Stp where
  d : Int
  o : Bool
  A : Option Addr
  l : List Nat
  c : Nat
def Stp.none_ : Stp := ⟨0, false, none, [], 0⟩
def Stp.v (z : Stp) : List Value := [.int .i64 z.d, .bool z.o, .slice z.A z.l.length z.c]
def stAt (zs : List Stp) (i : Nat) : Stp := zs[i]?.getD Stp.none_
abbrev StR (w : World) (AS : Option Addr) (zs : List Stp) : Prop := Rd w w.heap.size AS (zs.length * 3) (fun j => ((stAt zs (j / 3)).v)[j % 3]?.getD undef)
theorem StR.get {w : World} {AS : Option Addr} {zs : List Stp} (h : StR w AS zs) {i : Nat} (hi : i < zs.length) : ∃ b off, AS = some ⟨b, off, none⟩ ∧ b < w.heap.size ∧ w.cell? ⟨b, off + i * 3, none⟩ = some (.int .i64 (stAt zs i).d) ∧ w.cell? ⟨b, off + i * 3 + 1, none⟩ = some (.bool (stAt zs i).o) ∧ w.cell? ⟨b, off + i * 3 + 2, none⟩ = some (.slice (stAt zs i).A (stAt zs i).l.length (stAt zs i).c) := by
  obtain ⟨b, off, e, hb, hc⟩ := h (by omega)
  subst e
  have h0 : w.cell? ⟨b, off + i * 3, none⟩ = some (((stAt zs (i * 3 / 3)).v)[i * 3 % 3]?.getD undef) := hc (i * 3) (by omega)
  have h1 : w.cell? ⟨b, off + i * 3 + 1, none⟩ = some (((stAt zs ((i * 3 + 1) / 3)).v)[(i * 3 + 1) % 3]?.getD undef) := hc (i * 3 + 1) (by omega)
  have h2 : w.cell? ⟨b, off + i * 3 + 2, none⟩ = some (((stAt zs ((i * 3 + 2) / 3)).v)[(i * 3 + 2) % 3]?.getD undef) := hc (i * 3 + 2) (by omega)
  rw [show i * 3 / 3 = i by omega, show i * 3 % 3 = 0 by omega] at h0
  rw [show (i * 3 + 1) / 3 = i by omega, show (i * 3 + 1) % 3 = 1 by omega] at h1
  rw [show (i * 3 + 2) / 3 = i by omega, show (i * 3 + 2) % 3 = 2 by omega] at h2
  exact ⟨b, off, rfl, hb, h0, h1, h2⟩
/-- The bytes of the first k steps. -/
def tot (zs : List Stp) (k : Nat) : Nat := ((zs.take k).map fun z => z.l.length).sum
theorem tot_succ {zs : List Stp} {k : Nat} (h : k < zs.length) : tot zs (k + 1) = tot zs k + (stAt zs k).l.length := by
  unfold tot stAt
  rw [List.take_add_one, List.getElem?_eq_getElem h, List.map_append, List.sum_append]
  simp
theorem upd_const {α : Type} (v : α) (s : Nat) : upd (fun _ => v) s v = fun _ => v := by
  funext t
  unfold upd
  split <;> rfl
theorem tot_mono (zs : List Stp) {i k : Nat} (h : i ≤ k) : tot zs i ≤ tot zs k := by
  obtain ⟨d, rfl⟩ : ∃ d, k = i + d := ⟨k - i, by omega⟩
  induction d with
  | zero => exact Nat.le_refl _
  | succ d ih =>
    have h1 := ih (by omega)
    rcases Nat.lt_or_ge (i + d) zs.length with h | h
    · have := tot_succ h
      rw [show i + (d + 1) = i + d + 1 by omega]
      omega
    · have e : tot zs (i + (d + 1)) = tot zs (i + d) := by
        unfold tot
        rw [List.take_of_length_le (by omega), List.take_of_length_le (by omega)]
      omega

theorem eqg_pn (W : World) (o : BinOp) (x y : Operand) : (eqGuard o 48 x y (.pointer none) (.pointer none)).run Tryd.prog W = .ok () W := by cases o <;> rfl
theorem eqg_ps (W : World) (o : BinOp) (x y : Operand) (a : Addr) : (eqGuard o 48 x y (.pointer (some a)) (.pointer none)).run Tryd.prog W = .ok () W := by cases o <;> rfl
theorem eql_pn (W : World) : (binOp .eql 48 (.pointer none) (.pointer none)).run Tryd.prog W = .ok (.bool true) W := rfl
theorem eql_ps (W : World) (a : Addr) : (binOp .eql 48 (.pointer (some a)) (.pointer none)).run Tryd.prog W = .ok (.bool false) W := rfl
theorem neq_pn (W : World) : (binOp .neq 48 (.pointer none) (.pointer none)).run Tryd.prog W = .ok (.bool false) W := rfl
theorem neq_ps (W : World) (a : Addr) : (binOp .neq 48 (.pointer (some a)) (.pointer none)).run Tryd.prog W = .ok (.bool true) W := rfl
/-- What a step finds: is there a Cutter, what is to be answered. -/
theorem side_ask {W : World} {B : Nat} {r : Rul} {p : Value} {e : Bool} {g : List Nat} {D : Nat → Prop} (h : Side W B r p e g D) : ∃ (nb : Bool) (kW : Int), (∀ W, (binOp .eql 48 p (.pointer none)).run Tryd.prog W = .ok (.bool nb) W) ∧ (∀ W, (binOp .neq 48 p (.pointer none)).run Tryd.prog W = .ok (.bool (!nb)) W) ∧ (∀ W o x y, (eqGuard o 48 x y p (.pointer none)).run Tryd.prog W = .ok () W) ∧
    kW = (if nb then 1 else if e then 3 else 0) ∧ SideD W B r p nb e kW g D := by
  rcases h with ⟨rfl, bc, A, n, c, S, rfl, hc, rfl⟩ | ⟨k, rfl, ⟨rfl, rfl, rfl, rfl⟩ | ⟨bc, S, rfl, rfl, rfl, ho, hB, rfl⟩⟩
  · exact ⟨false, 0, fun W => eql_ps W _, fun W => neq_ps W _, fun W o x y => eqg_ps W o x y _, rfl, .inl ⟨rfl, rfl, rfl, bc, A, n, c, S, rfl, hc, rfl⟩⟩
  · exact ⟨true, 1, fun W => eql_pn W, fun W => neq_pn W, fun W o x y => eqg_pn W o x y, rfl, .inr ⟨by decide, ⟨rfl, .inl ⟨rfl, rfl, rfl, rfl⟩⟩, rfl⟩⟩
  · exact ⟨false, 3, fun W => eql_ps W _, fun W => neq_ps W _, fun W o x y => eqg_ps W o x y _, rfl, .inr ⟨by decide, ⟨rfl, .inr ⟨bc, S, rfl, rfl, rfl, ho, hB, rfl⟩⟩, rfl⟩⟩

set_option maxRecDepth 100000 in
set_option maxHeartbeats 8000000 in
theorem gearStreams_any (ru : Nat → Rul) (zs : List Stp) (AS : Option Addr) (N cS : Nat) (w : World) (hN : zs.length = N) (hNb : N ≤ 4398046511104) (hR : StR w AS zs) (hb : ∀ i, Byt w w.heap.size (stAt zs i).A (stAt zs i).l) (h256 : ∀ i, ∀ b ∈ (stAt zs i).l, b < 256) (hlen : ∀ i, (stAt zs i).l.length ≤ 140737488355328 ∧ (stAt zs i).l.length ≤ (stAt zs i).c) (hT : Tz w) :
    Calls Tryd.prog 7 #[.agg #[.int .i64 (ru 0).1, .int .i64 (ru 0).2.1, .int .i64 (ru 0).2.2], .agg #[.int .i64 (ru 1).1, .int .i64 (ru 1).2.1, .int .i64 (ru 1).2.2], .slice AS N cS] w fun e w' => e = .returned (.bool true) ∧ Below w.heap.size w w' := by
  have hN' := Lib.hid hN
  have hR' := Lib.hid hR
  have hb' := Lib.hid hb
  have h256' := Lib.hid h256
  have hlen' := Lib.hid hlen
  have hT' := Lib.hid hT
  have hb0 : Hid (Below w.heap.size w ((w.alloc (.cells #[.int .i64 (ru 0).1, .int .i64 (ru 0).2.1, .int .i64 (ru 0).2.2] 23)).alloc (.cells #[.int .i64 (ru 1).1, .int .i64 (ru 1).2.1, .int .i64 (ru 1).2.2] 23))) := Lib.hid (((Below.refl _ _).alloc (Nat.le_refl _) _).alloc (by simp) _)
  have h0 := heap_alloc2_old w (.cells #[.int .i64 (ru 0).1, .int .i64 (ru 0).2.1, .int .i64 (ru 0).2.2] 23) (.cells #[.int .i64 (ru 1).1, .int .i64 (ru 1).2.1, .int .i64 (ru 1).2.2] 23)
  have h1 := heap_alloc2_new w (.cells #[.int .i64 (ru 0).1, .int .i64 (ru 0).2.1, .int .i64 (ru 0).2.2] 23) (.cells #[.int .i64 (ru 1).1, .int .i64 (ru 1).2.1, .int .i64 (ru 1).2.2] 23)
  have hsz : Hid (((w.alloc (.cells #[.int .i64 (ru 0).1, .int .i64 (ru 0).2.1, .int .i64 (ru 0).2.2] 23)).alloc (.cells #[.int .i64 (ru 1).1, .int .i64 (ru 1).2.1, .int .i64 (ru 1).2.2] 23)).heap.size = w.heap.size + 2) := Lib.hid (by simp)
  clear hN hR hb h256 hlen hT
  go_enter Tryd.func7, Tryd.ntmps7
  go_wp2_with fail
  generalize ((w.alloc (.cells #[.int .i64 (ru 0).1, .int .i64 (ru 0).2.1, .int .i64 (ru 0).2.2] 23)).alloc (.cells #[.int .i64 (ru 1).1, .int .i64 (ru 1).2.1, .int .i64 (ru 1).2.2] 23)) = w1 at hb0 h0 h1 hsz ⊢
  have c00 := cell_of_row w1 _ 0 _ _ _ h0
  have c01 := cell_of_row w1 _ 1 _ _ _ h0
  have c02 := cell_of_row w1 _ 2 _ _ _ h0
  have c10 := cell_of_row w1 _ 0 _ _ _ h1
  have c11 := cell_of_row w1 _ 1 _ _ _ h1
  have c12 := cell_of_row w1 _ 2 _ _ _ h1
  simp only [List.getElem?_toArray, List.getElem?_cons_zero, List.getElem?_cons_succ] at c00 c01 c02 c10 c11 c12
  clear h0 h1
  go_loop [7, 8] (fun t i => ∃ k T : Nat, k ≤ N ∧ i = .int .i64 k ∧ t = .int .i64 T ∧ T ≤ 1048576 ∧ Hid (tot zs k = T)) (fun _ i => N - (intOf i).toNat)
  case atStart => exact ⟨0, 0, Nat.zero_le _, rfl, rfl, Nat.zero_le _, Lib.hid rfl⟩
  case round =>
    obtain ⟨k, T, hk, rfl, rfl, hTm, hTk⟩ := hrel
    by_cases hlt : k < N
    · obtain ⟨b, off, rfl, _, _, _, q2⟩ := hR'.out.get (i := k) (by rw [hN'.out]; exact hlt)
      have q2' := (hb0.out.cell (p := ⟨b, off + k * 3 + 2, none⟩) (World.block_lt_of_cell? _ _ q2)).trans q2
      have hLk := (hlen'.out k).1
      have hts := tot_succ (zs := zs) (k := k) (by rw [hN'.out]; exact hlt)
      generalize (stAt zs k).l.length = L at q2' hLk hts
      rw [hTk.out] at hts
      have hts' := Lib.hid hts
      have hlv := Lib.hid (lives_any w1 (hT'.out.below hb0.out))
      clear q2 hts c00 c01 c02 c10 c11 c12
      by_cases hbig : 1048576 < (T : Int) + (L : Int)
      · go_wp2_with (go_at_call 16; refine hlv.out.mono ?_; rintro e w2 ⟨rfl, hb2⟩)
        go_ret
        exact ⟨rfl, hb0.out.trans (hb2.mono hb0.out.size)⟩
      · have hsm : (T : Int) + (L : Int) ≤ 1048576 := by omega
        clear hbig
        go_wp2_with fail
        go_round
        case rel => exact ⟨k + 1, T + L, by omega, by go_num, by go_num, by omega, hts'⟩
        case measure => simp [intOf]; omega
    · obtain rfl : N = k := by omega
      clear hlt hk
      have hI0 : Hid (GsI w ru 0 0 (fun _ => .pointer none) (fun _ => false) (fun _ => false) (fun _ => []) (fun _ => []) (fun _ => none) (fun _ => 0) (fun _ _ => False) [] none 0 ((((w1.alloc (.cells #[.int .i64 (ru 0).1, .int .i64 (ru 0).2.1, .int .i64 (ru 0).2.2, .int .i64 (ru 1).1, .int .i64 (ru 1).2.1, .int .i64 (ru 1).2.2] 60)).alloc (.cells #[.pointer none, .pointer none] 61)).alloc (.cells #[.slice none 0 0, .slice none 0 0] 62)).alloc (.cells #[.bool false, .bool false] 63))) := Lib.hid (by
        have hs := hsz.out
        have hbx : Below w1.heap.size w1 ((((w1.alloc (.cells #[.int .i64 (ru 0).1, .int .i64 (ru 0).2.1, .int .i64 (ru 0).2.2, .int .i64 (ru 1).1, .int .i64 (ru 1).2.1, .int .i64 (ru 1).2.2] 60)).alloc (.cells #[.pointer none, .pointer none] 61)).alloc (.cells #[.slice none 0 0, .slice none 0 0] 62)).alloc (.cells #[.bool false, .bool false] 63)) := ((((Below.refl _ _).alloc (Nat.le_refl _) _).alloc (by simp) _).alloc (by simp <;> omega) _).alloc (by simp <;> omega) _
        exact {
          bel := hb0.out.trans (hbx.mono hb0.out.size)
          rl := by
            rw [← hs, heap_alloc_old _ _ (by simp <;> omega), heap_alloc_old _ _ (by simp <;> omega), heap_alloc_old _ _ (by simp)]
            exact heap_alloc_new w1 _
          pt := by
            rw [show w.heap.size + 3 = w1.heap.size + 1 by omega, heap_alloc_old _ _ (by simp <;> omega), heap_alloc_old _ _ (by simp)]
            have := heap_alloc_new (w1.alloc (.cells #[.int .i64 (ru 0).1, .int .i64 (ru 0).2.1, .int .i64 (ru 0).2.2, .int .i64 (ru 1).1, .int .i64 (ru 1).2.1, .int .i64 (ru 1).2.2] 60)) (.cells #[.pointer none, .pointer none] 61)
            simpa using this
          hd := by
            rw [show w.heap.size + 4 = w1.heap.size + 2 by omega, heap_alloc_old _ _ (by simp)]
            have := heap_alloc_new ((w1.alloc (.cells #[.int .i64 (ru 0).1, .int .i64 (ru 0).2.1, .int .i64 (ru 0).2.2, .int .i64 (ru 1).1, .int .i64 (ru 1).2.1, .int .i64 (ru 1).2.2] 60)).alloc (.cells #[.pointer none, .pointer none] 61)) (.cells #[.slice none 0 0, .slice none 0 0] 62)
            simpa using this
          en := by
            rw [show w.heap.size + 5 = w1.heap.size + 3 by omega]
            have := heap_alloc_new (((w1.alloc (.cells #[.int .i64 (ru 0).1, .int .i64 (ru 0).2.1, .int .i64 (ru 0).2.2, .int .i64 (ru 1).1, .int .i64 (ru 1).2.1, .int .i64 (ru 1).2.2] 60)).alloc (.cells #[.pointer none, .pointer none] 61)).alloc (.cells #[.slice none 0 0, .slice none 0 0] 62)) (.cells #[.bool false, .bool false] 63)
            simpa using this
          sd := fun s hs => .inr ⟨1, rfl, .inl ⟨rfl, rfl, rfl, rfl⟩⟩
          hr := fun s hs => Rd.empty
          hn := fun s hs h0 => by simp at h0
          hk := fun s hs h0 => by simp at h0
          hl := fun s hs => ⟨Nat.zero_le _, by simp⟩
          dd := fun _ h => h.elim
          ke := Own.nil _ _ _ _
          kn := fun k hk => by cases hk
          po := by simp
          pn := by simp
          di := List.Pairwise.nil
          pl := by simp
          jl := Nat.le_refl _ })
      go_wp2_with fail
      generalize ((((w1.alloc (.cells #[.int .i64 (ru 0).1, .int .i64 (ru 0).2.1, .int .i64 (ru 0).2.2, .int .i64 (ru 1).1, .int .i64 (ru 1).2.1, .int .i64 (ru 1).2.2] 60)).alloc (.cells #[.pointer none, .pointer none] 61)).alloc (.cells #[.slice none 0 0, .slice none 0 0] 62)).alloc (.cells #[.bool false, .bool false] 63)) = w2 at hI0 ⊢
      obtain ⟨gE, hE⟩ : ∃ g, w.heap.size + 5 = g := ⟨_, rfl⟩
      obtain ⟨gH, hH⟩ : ∃ g, w.heap.size + 4 = g := ⟨_, rfl⟩
      obtain ⟨gP, hP⟩ : ∃ g, w.heap.size + 3 = g := ⟨_, rfl⟩
      obtain ⟨gR, hRr⟩ : ∃ g, w.heap.size + 2 = g := ⟨_, rfl⟩
      rw [show w1.heap.size + 1 + 1 + 1 = gE by have := hsz.out; omega, show w1.heap.size + 1 + 1 = gH by have := hsz.out; omega, show w1.heap.size + 1 = gP by have := hsz.out; omega, show w1.heap.size = gR by have := hsz.out; omega]
      have hE' := Lib.hid hE
      have hH' := Lib.hid hH
      have hP' := Lib.hid hP
      have hR2 := Lib.hid hRr
      clear hE hH hP hRr c00 c01 c02 c10 c11 c12
      go_loopw [13, 14, 15] (fun iv x1 x2 wr => ∃ (n : Nat) (p : Nat → Value) (D : Nat → Nat → Prop), n ≤ 2 ∧ iv = .int .i64 n ∧ Hid (GsI w ru 0 0 p (fun _ => false) (fun _ => false) (fun _ => []) (fun _ => []) (fun _ => none) (fun _ => 0) D [] none 0 wr)) (fun iv _ _ _ => 2 - (intOf iv).toNat)
      case atStart => exact ⟨0, _, _, by omega, rfl, hI0⟩
      case round =>
        clear hI0
        obtain ⟨n, p, D, hn, rfl, hI⟩ := hrel
        by_cases hlt : n < 2
        · obtain ⟨_, _, _, _, _, r0, r1, r2⟩ := hI.out.cells hlt
          have fP := hI.out.frozenP n
          have yP := (hI.out.cells hlt).1
          rw [hR2.out] at r0 r1 r2
          rw [hP'.out] at fP yP
          have hTr := Lib.hid (hT'.out.below hI.out.bel)
          have i0 : (0 : Int) ≤ (n : Int) := by omega
          have i1 : (n : Int) < 2 := by omega
          by_cases ok : okRule (ru n).1 (ru n).2.1 (ru n).2.2
          · have ck := chk_ok ok
            have hnw := Lib.hid (new_any (ru n).1 (ru n).2.1 (ru n).2.2 wr ok hTr.out)
            have hrc := Lib.hid fun W => refCheck_any (ru n).1 (ru n).2.1 (ru n).2.2 W
            rw [ck] at hrc
            clear ok ck
            go_wp2_with (first
              | (go_at_call 22; refine hnw.out.mono ?_; rintro e w3 ⟨⟨bc, S, rfl, hcu⟩, hb3⟩
                 have hcu' := Lib.hid hcu
                 have hb3' := Lib.hid hb3
                 have r0 := (hb3.cell (p := ⟨gR, n * 3, none⟩) (World.block_lt_of_cell? _ _ r0)).trans r0
                 have r1 := (hb3.cell (p := ⟨gR, n * 3 + 1, none⟩) (World.block_lt_of_cell? _ _ r1)).trans r1
                 have r2 := (hb3.cell (p := ⟨gR, n * 3 + 2, none⟩) (World.block_lt_of_cell? _ _ r2)).trans r2
                 have fP := (hb3.frozen (p := ⟨gP, n, none⟩) (World.block_lt_of_cell? _ _ yP)).trans fP
                 have yP := (hb3.cell (p := ⟨gP, n, none⟩) (World.block_lt_of_cell? _ _ yP)).trans yP
                 clear hcu hb3 hnw)
              | (go_at_call 26; refine (hrc.out _).mono ?_; rintro e w4 ⟨rfl, hb4⟩
                 have hb4' := Lib.hid hb4
                 have fP := (hb4.frozen (p := ⟨gP, n, none⟩) (World.block_lt_of_cell? _ _ yP)).trans fP
                 have yP := (hb4.cell (p := ⟨gP, n, none⟩) (World.block_lt_of_cell? _ _ yP)).trans yP
                 clear hb4 hrc))
            have hnx : Hid (GsI w ru 0 0 (upd p n (.pointer (some ⟨bc, 0, none⟩))) (fun _ => false) (fun _ => false) (fun _ => []) (fun _ => []) (fun _ => none) (fun _ => 0) (upd D n (Dirty bc none S)) [] none 0 (w4.setCell ⟨gP, n, none⟩ (.pointer (some ⟨bc, 0, none⟩)))) := Lib.hid (by
              have hb34 := hb3'.out.trans (hb4'.out.mono hb3'.out.size)
              have hc4 := (hcu'.out.below hb4'.out).base hI.out.sz
              have z := (hI.out.keep hb34).setP hlt (e' := false) (g' := []) (D' := Dirty bc none S) (.inl ⟨rfl, bc, none, 0, 0, S, rfl, hc4, rfl⟩) (fun k hk => hI.out.far (hcu'.out.lt k hk).1)
              rw [upd_const, upd_const, hP'.out] at z
              exact z)
            go_roundw
            case rel => exact ⟨n + 1, _, _, by omega, by go_num, hnx⟩
            case measure => simp [intOf]; omega
          · have ck := chk_no ok
            have hnw := Lib.hid (new_no (ru n).1 (ru n).2.1 (ru n).2.2 wr ok)
            have hrc := Lib.hid fun W => refCheck_any (ru n).1 (ru n).2.1 (ru n).2.2 W
            rw [ck] at hrc
            clear ok ck
            go_wp2_with (first
              | (go_at_call 22; refine hnw.out.mono ?_; rintro e w3 ⟨rfl, hb3⟩
                 have hb3' := Lib.hid hb3
                 have r0 := (hb3.cell (p := ⟨gR, n * 3, none⟩) (World.block_lt_of_cell? _ _ r0)).trans r0
                 have r1 := (hb3.cell (p := ⟨gR, n * 3 + 1, none⟩) (World.block_lt_of_cell? _ _ r1)).trans r1
                 have r2 := (hb3.cell (p := ⟨gR, n * 3 + 2, none⟩) (World.block_lt_of_cell? _ _ r2)).trans r2
                 have fP := (hb3.frozen (p := ⟨gP, n, none⟩) (World.block_lt_of_cell? _ _ yP)).trans fP
                 have yP := (hb3.cell (p := ⟨gP, n, none⟩) (World.block_lt_of_cell? _ _ yP)).trans yP
                 clear hb3 hnw)
              | (go_at_call 26; refine (hrc.out _).mono ?_; rintro e w4 ⟨rfl, hb4⟩
                 have hb4' := Lib.hid hb4
                 have fP := (hb4.frozen (p := ⟨gP, n, none⟩) (World.block_lt_of_cell? _ _ yP)).trans fP
                 have yP := (hb4.cell (p := ⟨gP, n, none⟩) (World.block_lt_of_cell? _ _ yP)).trans yP
                 clear hb4 hrc))
            have hnx : Hid (GsI w ru 0 0 (upd p n (.pointer none)) (fun _ => false) (fun _ => false) (fun _ => []) (fun _ => []) (fun _ => none) (fun _ => 0) (upd D n (fun _ => False)) [] none 0 (w4.setCell ⟨gP, n, none⟩ (.pointer none))) := Lib.hid (by
              have hb34 := hb3'.out.trans (hb4'.out.mono hb3'.out.size)
              have z := (hI.out.keep hb34).setP hlt (p' := .pointer none) (e' := false) (g' := []) (D' := fun _ => False) (.inr ⟨1, rfl, .inl ⟨rfl, rfl, rfl, rfl⟩⟩) (fun k hk => hk.elim)
              rw [upd_const, upd_const, hP'.out] at z
              exact z)
            go_roundw
            case rel => exact ⟨n + 1, _, _, by omega, by go_num, hnx⟩
            case measure => simp [intOf]; omega
        · obtain rfl : n = 2 := by omega
          clear hlt hn
          have hI3 := Lib.hid hI.out
          clear hI
          go_wp2_with fail
          go_loopw [16, 17] (fun kv iv wv => ∃ (i J : Nat) (e : Nat → Bool) (h : Nat → List Nat) (A : Nat → Option Addr) (c : Nat → Nat) (D : Nat → Nat → Prop) (ks : List Pt) (AK : Option Addr) (cK : Nat), i ≤ N ∧ iv = .int .i64 i ∧ kv = .slice AK J cK ∧ Hid (ks.length = J) ∧ Hid (GsI w ru (tot zs i) (tot zs i + i) p e e h h A c D ks AK cK wv)) (fun _ iv _ => N - (intOf iv).toNat)
          case atStart => exact ⟨0, 0, _, _, _, _, _, [], none, 0, by omega, rfl, rfl, Lib.hid rfl, hI3⟩
          case round =>
            clear hI3
            obtain ⟨i, J, e, h, A, c, D, ks, AK, cK, hi, rfl, rfl, hJ, hI⟩ := hrel
            by_cases hlt : i < N
            · obtain ⟨b, off, rfl, hbw, s0, s1, s2⟩ := hR'.out.get (i := i) (by rw [hN'.out]; exact hlt)
              have s0 := (hI.out.bel.cell (p := ⟨b, off + i * 3, none⟩) hbw).trans s0
              have s1 := (hI.out.bel.cell (p := ⟨b, off + i * 3 + 1, none⟩) hbw).trans s1
              have s2 := (hI.out.bel.cell (p := ⟨b, off + i * 3 + 2, none⟩) hbw).trans s2
              have hzl := Lib.hid (hlen'.out i).2
              have hz256 := Lib.hid (h256'.out i)
              have hzb := Lib.hid ((hb'.out i).below hI.out.bel)
              have hzw := Lib.hid (hb'.out i)
              have hts := Lib.hid (tot_succ (zs := zs) (k := i) (by rw [hN'.out]; exact hlt))
              have htm : Hid (tot zs (i + 1) ≤ 1048576) := Lib.hid (by
                have h1 := tot_mono zs (show i + 1 ≤ N by omega)
                have h2 := hTk.out
                omega)
              generalize stAt zs i = z at s0 s1 s2 hzl hz256 hzb hts hzw
              obtain ⟨d, o, Az, lz, cz⟩ := z
              simp only at s0 s1 s2 hzl hz256 hzb hts hzw
              obtain ⟨L, hL⟩ : ∃ L, Hid (lz.length = L) := ⟨_, Lib.hid rfl⟩
              rw [hL.out] at s2 hzl hts
              have hbA : Below wr.heap.size wr (wr.alloc (.cells #[.int .i64 d, .bool o, .slice Az L cz] 59)) := (Below.refl _ _).alloc (Nat.le_refl _) _
              have hIx := Lib.hid (hI.out.keep hbA)
              have hX : Hid ((wr.alloc (.cells #[.int .i64 d, .bool o, .slice Az L cz] 59)).heap[wr.heap.size]? = some (.cells #[.int .i64 d, .bool o, .slice Az L cz] 59 (0, 0))) := Lib.hid (heap_alloc_new wr _)
              have hxs : Hid (wr.heap.size < (wr.alloc (.cells #[.int .i64 d, .bool o, .slice Az L cz] 59)).heap.size ∧ w.heap.size + 6 ≤ wr.heap.size ∧ ∀ t, t < 2 → ¬ D t wr.heap.size) := Lib.hid ⟨by simp, hI.out.sz, (hI.out.far (Nat.le_refl _)).1⟩
              have hzbx := Lib.hid (hzb.out.below (hbA.mono hI.out.bel.size))
              obtain ⟨sN, hsN⟩ : ∃ sN, sN = if o then 1 else 0 := ⟨_, rfl⟩
              have hs2 : sN < 2 := by rw [hsN]; split <;> omega
              clear hbA hzb
              go_upto_if 89 with fail
              generalize wr.alloc (.cells #[.int .i64 d, .bool o, .slice Az L cz] 59) = wx at hIx hX hxs hzbx ⊢
              obtain ⟨gX, hgX⟩ : ∃ g, wr.heap.size = g := ⟨_, rfl⟩
              rw [hgX] at hX hxs ⊢
              clear hgX s0 s1 s2
              go_cut [19] from 88 to 88 (fun v wz => v = .int .i64 (sN : Nat) ∧ wz = wx)
              case first =>
                cases o
                · go_wp2_with fail
                  go_meet
                  exact ⟨by rw [hsN]; rfl, rfl⟩
                · go_wp2_with fail
                  go_meet
                  exact ⟨by rw [hsN]; rfl, rfl⟩
              case rest =>
                obtain ⟨rfl, hwz⟩ := hcut
                rw [hwz]
                clear hwz hsN
                have x0 := cell_of_row wx gX 0 _ _ _ hX.out
                have x2 := cell_of_row wx gX 2 _ _ _ hX.out
                simp only [List.getElem?_toArray, List.getElem?_cons_zero, List.getElem?_cons_succ] at x0 x2
                obtain ⟨yP, yH, yE, fH, fE, r0, r1, r2⟩ := hIx.out.cells hs2
                rw [hP'.out] at yP
                rw [hH'.out] at yH fH
                rw [hE'.out] at yE fE
                rw [hR2.out] at r0 r1 r2
                obtain ⟨nb, kW, heq, hne, hqg, hkW, hside⟩ := side_ask (hIx.out.sd sN hs2)
                have hsd := Lib.hid hside
                obtain ⟨pv, hpv⟩ : ∃ pv, Hid (∀ _ : Unit, p sN = pv) := ⟨_, Lib.hid fun _ => rfl⟩
                obtain ⟨ev, hev⟩ : ∃ ev, Hid (∀ _ : Unit, e sN = ev) := ⟨_, Lib.hid fun _ => rfl⟩
                rw [hpv.out ()] at yP heq hne hqg
                rw [hev.out ()] at yE hkW
                have hne' := Lib.hid hne
                have i0 : (0 : Int) ≤ (sN : Int) := by omega
                have i1 : (sN : Int) < 2 := by omega
                clear hside hne
                go_upto_if 94 with fail
                go_cut [21] from 95 to 97 (fun v wz => v = .int .i64 kW ∧ wz = wx)
                case first =>
                  cases nb
                  · cases ev
                    · go_wp2_with fail
                      go_meet
                      exact ⟨by rw [hkW]; rfl, rfl⟩
                    · go_wp2_with fail
                      go_meet
                      exact ⟨by rw [hkW]; rfl, rfl⟩
                  · go_wp2_with fail
                    go_meet
                    exact ⟨by rw [hkW]; rfl, rfl⟩
                case rest =>
                  obtain ⟨rfl, hwz⟩ := hcut
                  rw [hwz]
                  clear hwz
                  have hkW' := Lib.hid hkW
                  clear hkW
                  by_cases d0 : d = 0
                  · subst d0
                    obtain ⟨lh, hlh⟩ : ∃ lh, Hid (∀ _ : Unit, h sN = lh) := ⟨_, Lib.hid fun _ => rfl⟩
                    obtain ⟨nh, hnh⟩ : ∃ nh, Hid (lh.length = nh) := ⟨_, Lib.hid rfl⟩
                    have hrh := Lib.hid (hIx.out.hr sN hs2)
                    have hlx := hIx.out.hl sN hs2
                    rw [hlh.out ()] at yH hsd hrh hlx
                    rw [hnh.out] at yH hlx
                    have hl256 := Lib.hid hlx.2
                    have hnT : nh + L ≤ 1048576 := by have := hlx.1; have := hts.out; have := htm.out; omega
                    have hA256 : Hid (∀ b ∈ lh ++ lz, b < 256) := Lib.hid fun b hb => by
                      rcases List.mem_append.1 hb with hb | hb
                      · exact hl256.out b hb
                      · exact hz256.out b hb
                    have hAl : Hid ((lh ++ lz).length = nh + L) := Lib.hid (by rw [List.length_append, hnh.out, hL.out])
                    clear hlx
                    go_wp2_with (first
                      | (at_builtin; refine wpList_appB elB _ rfl (.tmp 102) (.tmp 105) rfl rfl (ownB_nil wx wx.heap.size _) rfl hnh.out hrh.out (by omega) (Nat.le_refl _) nh (by omega) ?_; intro A3 c3 w3 o3 _ hb3; rw [List.nil_append] at o3
                         have o3' := Lib.hid o3
                         have hb3' := Lib.hid hb3
                         have x23 := (hb3.cell (p := ⟨gX, 2, none⟩) (World.block_lt_of_cell? _ _ x2)).trans x2
                         clear o3 hb3 hrh)
                      | (at_builtin; refine wpList_appB elB _ rfl (.tmp 107) (.tmp 109) rfl rfl o3'.out rfl hL.out ((hzbx.out.below (hb3'.out.mono hIx.out.bel.size))) (by omega) hb3'.out.size (nh + L) (by omega) ?_; intro A4 c4 w4 o4 _ hb4
                         have hb4' := Lib.hid (hb3'.out.trans hb4)
                         have hwh := Lib.hid (refWhole_any (ru sN).1 (ru sN).2.1 (ru sN).2.2 (lh ++ lz) A4 c4 (nh + L) w4 hAl.out hA256.out (by omega) o4.le.1 o4.byt)
                         have o4' := Lib.hid o4
                         have r04 := (hb4'.out.cell (p := ⟨gR, sN * 3, none⟩) (World.block_lt_of_cell? _ _ r0)).trans r0
                         have r14 := (hb4'.out.cell (p := ⟨gR, sN * 3 + 1, none⟩) (World.block_lt_of_cell? _ _ r1)).trans r1
                         have r24 := (hb4'.out.cell (p := ⟨gR, sN * 3 + 2, none⟩) (World.block_lt_of_cell? _ _ r2)).trans r2
                         have x24 := (hb4'.out.cell (p := ⟨gX, 2, none⟩) (World.block_lt_of_cell? _ _ x2)).trans x2
                         clear o4 hb4 o3' hb3' x23)
                      | (go_at_call 27; refine hwh.out.mono ?_; rintro e w5 ⟨ws, Aw, cw, pp, q, rfl, hpq, hws, ow, hwb, hb5⟩
                         generalize hmw : ws.length = mw at ow ⊢
                         have hmw' := Lib.hid hmw
                         have hws' := Lib.hid hws
                         have ow' := Lib.hid ow
                         have hwb' := Lib.hid hwb
                         have hb45 := Lib.hid hb5
                         have hb5' := Lib.hid (hb4'.out.trans (hb5.mono hb4'.out.size))
                         have x25 := (hb5'.out.cell (p := ⟨gX, 2, none⟩) (World.block_lt_of_cell? _ _ x2)).trans x2
                         have hln := Lib.hid (lent_any w5 lz Az cz ((hzbx.out.below (hb5'.out.mono hIx.out.bel.size)).mono (Nat.le_trans hIx.out.bel.size hb5'.out.size)) (by rw [hL.out]; omega))
                         rw [hL.out] at hln
                         clear hmw hws ow hwb hb5 hwh r04 r14 r24 x24)
                      | (go_at_call 10; refine hln.out.mono ?_; rintro e w6 ⟨⟨gl, cl, rfl, ol⟩, hb6⟩
                         have ol' := Lib.hid ol
                         have hb56 := Lib.hid hb6
                         have hb6' := Lib.hid (hb5'.out.trans (hb6.mono hb5'.out.size))
                         clear ol hb6 hln x25))
                    have hgl : Hid (wx.heap.size ≤ gl ∧ gl < w6.heap.size ∧ w5.heap.size ≤ gl) := Lib.hid (by
                      have h1 := ol'.out.lt gl rfl
                      exact ⟨Nat.le_trans hb5'.out.size h1.1, h1.2, h1.1⟩)
                    have hlz : Hid (Byt w6 w6.heap.size (some ⟨gl, 0, none⟩) lz) := Lib.hid (by
                      have h1 := Byt.take ol'.out.byt L (by rw [marked_length, hL.out]; omega)
                      rw [marked, ← hL.out, List.take_left] at h1
                      exact h1)
                    have hwr := Lib.hid (write_side (hIx.out.keep hb6'.out) hs2 (hlh.out ()) (hsd.out.fr (Fr.of_below (fun _ => False) hb6'.out) (fun _ _ h => h)) hL.out hz256.out (by rw [hnh.out]; omega) hlz.out (fun _ k hk t ht => (hIx.out.far (by injection hk with hk; subst hk; exact hgl.out.1)).1 t ht) hT'.out (cl := cl))
                    rw [hpv.out ()] at hwr
                    refine hwr.out.mono ?_
                    rintro e w7 ⟨Ao, co, ys, D', g', rfl, x7, f7, oo, oy, dy, -, uy, hdn, hyl, hor⟩
                    obtain ⟨jy, hjy⟩ : ∃ j, Hid (ys.length = j) := ⟨_, Lib.hid rfl⟩
                    have hds : Hid (∀ k, wx.heap.size ≤ k → ¬ D sN k) := Lib.hid fun k hk => (hIx.out.far hk).1 sN hs2
                    have hx4 : Hid (wx.heap.size ≤ w4.heap.size ∧ w4.heap.size ≤ w5.heap.size ∧ w5.heap.size ≤ w6.heap.size ∧ w6.heap.size ≤ w7.heap.size) := Lib.hid ⟨hb4'.out.size, hb45.out.size, hb56.out.size, f7.size⟩
                    have x27 : w7.cell? ⟨gX, 2, none⟩ = some (.slice Az L cz) := (World.cell?_of_block (f7.block gX (Nat.lt_of_lt_of_le hxs.out.1 hb6'.out.size) (hxs.out.2.2 sN hs2))).trans ((hb6'.out.cell (p := ⟨gX, 2, none⟩) hxs.out.1).trans x2)
                    have olw := ol'.out.fr f7 (fun k hk => by injection hk with hk; subst hk; exact hds.out _ hgl.out.1)
                    have olw' := Lib.hid olw
                    have hlf := Lib.hid (left_any w7 lz Az cz cl gl ((hzw.out.below x7.bel).mono x7.bel.size) olw.byt (by rw [hL.out]; omega) (by rw [hL.out]; exact olw.le.1))
                    have hjc : ys.length = jy := hjy.out
                    rw [hL.out] at hlf hyl
                    rw [hjc] at oo hyl ⊢
                    have x7' := Lib.hid x7
                    have f7' := Lib.hid f7
                    have oo' := Lib.hid oo
                    have oy' := Lib.hid oy
                    have dy' := Lib.hid dy
                    have uy' := Lib.hid uy
                    have hdn' := Lib.hid hdn
                    have hJw : Hid (J ≤ tot zs i + i) := Lib.hid (by rw [← hJ.out]; exact hIx.out.jl)
                    have hiN : i < N := hlt
                    clear olw hjc x7 f7 oo oy dy uy hdn hwr x0 x2
                    rcases hor with ⟨rfl, hwq⟩ | ⟨hk0, hys, rfl, hlh0⟩
                    · have hwe := Prod.mk.inj (hwq.trans hws'.out.symm)
                      have hwe1 := Lib.hid hwe.1
                      have hg7 := hwe.2
                      subst hg7
                      have hyb : Hid (∀ y ∈ ys, y.l.length ≤ 1048576) := Lib.hid fun y hy => by
                        have h1 := (whole_bound (ru sN).1 (ru sN).2.1 (ru sN).2.2 (lh ++ lz)).2.1 y.l (by rw [← hwq]; exact List.mem_map_of_mem hy)
                        rw [hAl.out] at h1
                        omega
                      have hss : Hid (∀ m, Calls Tryd.prog 28 #[.slice Ao jy co, .slice Aw mw cw] (w7.drewN m) fun e w' => e = .returned (.bool true) ∧ ∃ k, w' = (w7.drewN m).drewN k) := Lib.hid fun m => sameLists_any ys ws Ao Aw jy mw co cw w6.heap.size w4.heap.size (w7.drewN m) hjy.out hmw'.out hwe1.out (by omega) (oo'.out.drewN m)
                        (((ow'.out.below hb56.out (fun k hk => (ow'.out.lt k hk).2)).fr f7'.out (fun k hk => hds.out k (Nat.le_trans hx4.out.1 (ow'.out.lt k hk).1))).drewN m)
                        (fun z hz => Rd.drewN (oy'.out z hz).byt m)
                        (fun z hz => Rd.drewN ((((hwb'.out z hz).1.below (hb56.out.mono hx4.out.2.1)).fr f7'.out (fun k hk => hds.out k (o4'.out.lt k ((hwb'.out z hz).2.symm.trans hk)).1)).mono (show w4.heap.size ≤ w7.heap.size by have := hx4.out; omega)) m)
                        (fun z hz => by have := hyb.out z hz; omega)
                      clear hwq hwe
                      go_wp2_with (first
                        | (go_at_call 14; refine hlf.out.mono ?_; rintro e w ⟨rfl, m1, rfl⟩)
                        | (go_at_call 28; refine (hss.out _).mono ?_; rintro e w ⟨rfl, m2, rfl⟩))
                      go_loopw [28] (fun kv wr => ∃ k : Nat, k ≤ L ∧ kv = .int .i64 k ∧ Hid (Fr (fun k => k = gl) w7 wr) ∧ Hid (∃ xs, Own wr w5.heap.size 5 1 (some ⟨gl, 0, none⟩) (L + 80) cl xs)) (fun kv _ => L - (intOf kv).toNat)
                      case atStart => exact ⟨0, Nat.zero_le _, rfl, Lib.hid ((Fr.refl _ _).drewN _), Lib.hid ⟨_, olw'.out.drewN _⟩⟩
                      case round =>
                        obtain ⟨k, hk, rfl, hfk, hok⟩ := hrel
                        by_cases hkl : k < L
                        · obtain ⟨xs, hxo⟩ := hok.out
                          have hxo' := Lib.hid hxo
                          have hxl : k < xs.length := by have := hxo.len; omega
                          have qk := (hxo.cell k (by omega)).trans (List.getElem?_eq_getElem hxl)
                          have fk := hxo.frozen k
                          generalize xs[k] = vk at qk
                          have k0 : (0 : Int) ≤ (k : Int) := by omega
                          have k1 : (k : Int) < (L : Int) := by omega
                          clear hxo hxl
                          go_wp2_with fail
                          go_roundw
                          case rel => exact ⟨k + 1, by omega, by go_num, Lib.hid (hfk.out.trans (Fr.setCell _ ⟨gl, k, none⟩ _) (fun _ _ h => h)), Lib.hid ⟨_, hxo'.out.set k _⟩⟩
                          case measure => simp [intOf]; omega
                        · obtain rfl : k = L := by omega
                          clear hkl hk hok
                          have x8 := Lib.hid (hIx.out.mid hdn'.out hs2 x7'.out hgl.out.1 hgl.out.2.1 hfk.out)
                          have oy8 : Hid (∀ z ∈ ys, Own wr w6.heap.size 5 1 z.A z.l.length z.c (u8s z.l)) := Lib.hid fun z hz => (oy'.out z hz).fr hfk.out (fun k hk e => by have := ((oy'.out z hz).lt k hk).1; have := hgl.out; omega)
                          have oo8 := Lib.hid (oo'.out.fr hfk.out (fun k hk e => by have := (oo'.out.lt k hk).1; have := hgl.out; omega))
                          have hke := Lib.hid (show Own wr (w.heap.size + 6) 24 1 AK J cK (ks.map Pt.v) by have := x8.out.ke; rwa [hJ.out] at this)
                          have hrd := Lib.hid (show Rd wr wr.heap.size Ao (jy * 1) (fun i => (ys.map Pt.v)[i]?.getD undef) from oo8.out.rd)
                          have hone : Hid (∀ i, i < jy * 1 → ((ys.map Pt.v)[i]?.getD undef).oneCell' = true) := Lib.hid fun i hi => by
                            rw [List.getElem?_map, List.getElem?_eq_getElem (by rw [hjy.out]; omega)]
                            rfl
                          have hz8 : w.heap.size + 6 ≤ wr.heap.size := x8.out.sz
                          have hJL := hJw.out
                          have htL := htm.out
                          have htL2 := hts.out
                          have hJJ : J + jy ≤ 8796094070784 := by omega
                          clear hJL htL htL2
                          go_wp2_with (at_builtin; refine wpList_app elS wr rfl (.tmp 166) (.tmp 167) rfl rfl hke.out rfl hrd.out hone.out (by unfold maxLen; omega) (by omega) hz8 (J + jy) rfl (ks.map Pt.v ++ ys.map Pt.v) (by rw [grange_get (by rw [List.length_map, hjy.out])]) ?_; intro A9 c9 w9 o9 at9 _
                                       have x9 := Lib.hid (hIx.out.more x8.out hb6'.out.size at9 (by rw [hJ.out, hjy.out]; exact o9) oy8.out uy'.out dy'.out hyb.out (J' := tot zs (i + 1) + (i + 1)) (by rw [hJ.out, hjy.out]; have := hJw.out; have := hts.out; omega))
                                       have at9' := Lib.hid at9
                                       obtain ⟨-, yH9, -, fH9, -⟩ := x9.out.cells hs2
                                       rw [hH'.out] at yH9 fH9
                                       clear o9 at9)
                          have hrest : Hid (Byt w9 w9.heap.size (cutA A4 pp c4) ((lh ++ lz).drop pp)) := Lib.hid (by
                            have hA4 : ∀ k, blockOf (cutA A4 pp c4) = some k → wx.heap.size ≤ k ∧ k < w4.heap.size := fun k hk => o4'.out.lt k (by rwa [blockOf_cutA] at hk)
                            have r4 : Byt w4 w4.heap.size (cutA A4 pp c4) ((lh ++ lz).drop pp) := o4'.out.byt.cut (by rw [hAl.out]; omega) (by rw [hAl.out]; exact o4'.out.le.1)
                            have r6 := r4.below (hb45.out.trans (hb56.out.mono hx4.out.2.1))
                            have r7 := r6.fr f7'.out (fun k hk => hds.out k (hA4 k hk).1)
                            have r8 := r7.fr hfk.out (fun k hk e => by have := (hA4 k hk).2; have := hgl.out; have := hx4.out; omega)
                            have r9 := r8.fr (Fr.of_grown at9'.out.grown) (fun k hk e => (hIx.out.far (hA4 k hk).1).2.2.1 e)
                            exact r9.mono (by have h1 := at9'.out.grown.size; have h2 := hfk.out.size; have := hx4.out; omega))
                          have x10 := Lib.hid (hIx.out.held hdn'.out hs2 x9.out at9'.out (by have := hfk.out.size; have := hx4.out; omega) (fun k hk => (hIx.out.ke.lt k hk).2) (l := (lh ++ lz).drop pp) (n := q) (A' := cutA A4 pp c4) (c' := c4 - pp) (T' := tot zs (i + 1)) (by rw [List.length_drop, hAl.out]; omega) hrest.out
                            (fun k hk => by
                              have h1 := o4'.out.lt k (by rwa [blockOf_cutA] at hk)
                              have := hx4.out
                              exact ⟨h1.1, by omega⟩) (by have := hts.out; omega)
                            ⟨by rw [List.length_drop, hAl.out]; have h1 := (hIx.out.hl sN hs2).1; rw [hlh.out (), hnh.out] at h1; have := hts.out; omega, fun b hb => hA256.out b (List.mem_of_mem_drop hb)⟩
                            (by have h1 := at9'.out.grown.size; have h2 := hfk.out.size; have := hx4.out; omega))
                          rw [hH'.out] at x10
                          go_roundw
                          case rel => exact ⟨i + 1, J + jy, e, _, _, _, _, ks ++ ys, A9, c9, by omega, by go_num, rfl, Lib.hid (by rw [List.length_append, hJ.out, hjy.out]), x10⟩
                          case measure => simp [intOf]; omega
                    · have hys' := Lib.hid hys
                      have hj0 : Hid (jy = 0) := Lib.hid (by rw [← hjy.out, hys]; rfl)
                      have hj1 : ((jy : Int) != 0) = false := by rw [hj0.out]; rfl
                      have hk1 : (kW == 0) = false := by simpa using hk0
                      have hk2 : (kW != 0) = true := by simpa using hk0
                      have hk3 : (kW != kW) = false := by simp
                      have hyb : Hid (∀ y ∈ ys, y.l.length ≤ 1048576) := Lib.hid (by rw [hys]; simp)
                      have hhh : Hid (upd h sN [] = h) := Lib.hid (upd_to h sN ((hlh.out ()).trans hlh0))
                      clear hys hlh0
                      go_wp2_with (go_at_call 14; refine hlf.out.mono ?_; rintro e w ⟨rfl, m1, rfl⟩)
                      go_loopw [28] (fun kv wr => ∃ k : Nat, k ≤ L ∧ kv = .int .i64 k ∧ Hid (Fr (fun k => k = gl) w7 wr) ∧ Hid (∃ xs, Own wr w5.heap.size 5 1 (some ⟨gl, 0, none⟩) (L + 80) cl xs)) (fun kv _ => L - (intOf kv).toNat)
                      case atStart => exact ⟨0, Nat.zero_le _, rfl, Lib.hid ((Fr.refl _ _).drewN _), Lib.hid ⟨_, olw'.out.drewN _⟩⟩
                      case round =>
                        obtain ⟨k, hk, rfl, hfk, hok⟩ := hrel
                        by_cases hkl : k < L
                        · obtain ⟨xs, hxo⟩ := hok.out
                          have hxo' := Lib.hid hxo
                          have hxl : k < xs.length := by have := hxo.len; omega
                          have qk := (hxo.cell k (by omega)).trans (List.getElem?_eq_getElem hxl)
                          have fk := hxo.frozen k
                          generalize xs[k] = vk at qk
                          have k0 : (0 : Int) ≤ (k : Int) := by omega
                          have k1 : (k : Int) < (L : Int) := by omega
                          clear hxo hxl
                          go_wp2_with fail
                          go_roundw
                          case rel => exact ⟨k + 1, by omega, by go_num, Lib.hid (hfk.out.trans (Fr.setCell _ ⟨gl, k, none⟩ _) (fun _ _ h => h)), Lib.hid ⟨_, hxo'.out.set k _⟩⟩
                          case measure => simp [intOf]; omega
                        · obtain rfl : k = L := by omega
                          clear hkl hk hok
                          have x8 := Lib.hid (hIx.out.mid hdn'.out hs2 x7'.out hgl.out.1 hgl.out.2.1 hfk.out)
                          have oy8 : Hid (∀ z ∈ ys, Own wr w6.heap.size 5 1 z.A z.l.length z.c (u8s z.l)) := Lib.hid fun z hz => (oy'.out z hz).fr hfk.out (fun k hk e => by have := ((oy'.out z hz).lt k hk).1; have := hgl.out; omega)
                          have oo8 := Lib.hid (oo'.out.fr hfk.out (fun k hk e => by have := (oo'.out.lt k hk).1; have := hgl.out; omega))
                          have hke := Lib.hid (show Own wr (w.heap.size + 6) 24 1 AK J cK (ks.map Pt.v) by have := x8.out.ke; rwa [hJ.out] at this)
                          have hrd := Lib.hid (show Rd wr wr.heap.size Ao (jy * 1) (fun i => (ys.map Pt.v)[i]?.getD undef) from oo8.out.rd)
                          have hone : Hid (∀ i, i < jy * 1 → ((ys.map Pt.v)[i]?.getD undef).oneCell' = true) := Lib.hid fun i hi => by
                            rw [List.getElem?_map, List.getElem?_eq_getElem (by rw [hjy.out]; omega)]
                            rfl
                          have hz8 : w.heap.size + 6 ≤ wr.heap.size := x8.out.sz
                          have hJL := hJw.out
                          have htL := htm.out
                          have htL2 := hts.out
                          have hJJ : J + jy ≤ 8796094070784 := by omega
                          clear hJL htL htL2
                          go_wp2_with (at_builtin; refine wpList_app elS wr rfl (.tmp 166) (.tmp 167) rfl rfl hke.out rfl hrd.out hone.out (by unfold maxLen; omega) (by omega) hz8 (J + jy) rfl (ks.map Pt.v ++ ys.map Pt.v) (by rw [grange_get (by rw [List.length_map, hjy.out])]) ?_; intro A9 c9 w9 o9 at9 _
                                       have x9 := Lib.hid (hIx.out.more x8.out hb6'.out.size at9 (by rw [hJ.out, hjy.out]; exact o9) oy8.out uy'.out dy'.out hyb.out (J' := tot zs (i + 1) + (i + 1)) (by rw [hJ.out, hjy.out]; have := hJw.out; have := hts.out; omega))
                                       have at9' := Lib.hid at9
                                       obtain ⟨-, yH9, -, fH9, -⟩ := x9.out.cells hs2
                                       rw [hH'.out] at yH9 fH9
                                       clear o9 at9)
                          have x10 : Hid (GsI w ru (tot zs (i + 1)) (tot zs (i + 1) + (i + 1)) p e e h h A c (upd D sN D') (ks ++ ys) A9 c9 w9) := Lib.hid (by
                            have x11 := x9.out.up (T' := tot zs (i + 1)) (by have := hts.out; omega) (Nat.le_refl _)
                            rwa [hhh.out] at x11)
                          go_roundw
                          case rel => exact ⟨i + 1, J + jy, e, _, _, _, _, ks ++ ys, A9, c9, by omega, by go_num, rfl, Lib.hid (by rw [List.length_append, hJ.out, hjy.out]), x10⟩
                          case measure => simp [intOf]; omega
                  · have d0' : (d == 0) = false := by simpa using d0
                    by_cases d1 : d = 1
                    · subst d1
                      obtain ⟨lh, hlh⟩ : ∃ lh, Hid (∀ _ : Unit, h sN = lh) := ⟨_, Lib.hid fun _ => rfl⟩
                      obtain ⟨nh, hnh⟩ : ∃ nh, Hid (lh.length = nh) := ⟨_, Lib.hid rfl⟩
                      have hlx := hIx.out.hl sN hs2
                      rw [hlh.out ()] at yH hsd hlx
                      rw [hnh.out] at yH hlx
                      have hnT : nh ≤ 1048576 := by have := hlx.1; have := hts.out; have := htm.out; omega
                      have hen := Lib.hid (end_side hIx.out hs2 (hlh.out ()) hsd.out (by rw [hnh.out]; omega))
                      rw [hpv.out ()] at hen
                      clear hlx x2
                      go_wp2_with fail
                      refine hen.out.mono ?_
                      rintro e2 w7 ⟨Ao, co, D', rfl, x7, f7, oo, uo, hk7⟩
                      rw [hnh.out] at oo ⊢
                      have x7' := Lib.hid x7
                      have oo' := Lib.hid oo
                      have uo' := Lib.hid uo
                      have hJw : Hid (J ≤ tot zs i + i) := Lib.hid (by rw [← hJ.out]; exact hIx.out.jl)
                      have hw7 := Lib.hid f7.size
                      have hrh := Lib.hid (x7.hr sN hs2)
                      obtain ⟨-, yH7, -, -, -⟩ := x7.cells hs2
                      rw [hlh.out ()] at hrh yH7
                      rw [hnh.out, hH'.out] at yH7
                      have hsb := Lib.hid (same_eq Ao (A sN) co (c sN) nh (fun j => ((lh[j]?.getD 0 : Nat) : Int)) w7.heap.size w7.heap.size w7 (by omega) (by have := oo.byt; unfold Byt at this; rwa [hnh.out] at this) (by have := hrh.out; unfold Byt at this; rwa [hnh.out] at this))
                      have hiN : i < N := hlt
                      have hout : Hid (∀ m A9 c9 w9, Own w9 (w.heap.size + 6) 24 1 A9 (J + 1) c9 (ks.map Pt.v ++ #[Value.slice Ao nh co].toList) → AppAt (w7.drewN m) w9 AK A9 → GsI w ru (tot zs (i + 1)) (tot zs (i + 1) + (i + 1)) p (upd e sN (!nb)) e (upd h sN []) h A c (upd D sN D') (ks ++ [⟨Ao, lh, co⟩]) A9 c9 w9) := Lib.hid fun m A9 c9 w9 o9 at9 => by
                        have y := hIx.out.more (x7'.out.drewN m) (ys := [⟨Ao, lh, co⟩]) (B := wx.heap.size) (J' := tot zs (i + 1) + (i + 1)) (Nat.le_refl _) at9 (by rw [hJ.out]; simp only [List.map_cons, List.map_nil, Pt.v, hnh.out]; exact o9) (fun z hz => by
                          obtain rfl := List.mem_singleton.1 hz
                          simp only [hnh.out]
                          exact oo'.out.drewN m) (fun z hz => by
                          obtain rfl := List.mem_singleton.1 hz
                          exact uo'.out) (by simp) (fun z hz => by
                          obtain rfl := List.mem_singleton.1 hz
                          simp only [hnh.out]
                          omega) (by rw [hJ.out]; have := hJw.out; have := hts.out; simp; omega)
                        exact y.up (by have := hts.out; omega) (Nat.le_refl _)
                      have hke : Hid (∀ m, Own (w7.drewN m) (w.heap.size + 6) 24 1 AK J cK (ks.map Pt.v)) := Lib.hid fun m => by have := x7'.out.ke; rw [hJ.out] at this; exact this.drewN m
                      have hz7 : w.heap.size + 6 ≤ w7.heap.size := x7.sz
                      have hJJ : J ≤ 8796094070784 := by have := hJw.out; have := hts.out; have := htm.out; omega
                      have hlast : Hid (∀ A9 c9 w9, GsI w ru (tot zs (i + 1)) (tot zs (i + 1) + (i + 1)) p (upd e sN (!nb)) e (upd h sN []) h A c (upd D sN D') (ks ++ [⟨Ao, lh, co⟩]) A9 c9 w9 → GsI w ru (tot zs (i + 1)) (tot zs (i + 1) + (i + 1)) p (upd e sN (!nb)) (upd e sN (!nb)) (upd h sN []) (upd h sN []) (upd A sN none) (upd c sN 0) (upd D sN D') (ks ++ [⟨Ao, lh, co⟩]) A9 c9 ((w9.setCell ⟨gH, sN, none⟩ (.slice none 0 0)).setCell ⟨gE, sN, none⟩ (.bool (!nb)))) := Lib.hid fun A9 c9 w9 y => by
                        have y2 := (y.setH hs2 (A' := none) (l := []) (n := 0) (c' := 0) (T' := tot zs (i + 1)) rfl Rd.empty (fun h0 => absurd h0 (by simp)) (Nat.le_refl _) ⟨Nat.zero_le _, by simp⟩).setE hs2 (!nb)
                        rw [hH'.out, hE'.out] at y2
                        exact y2
                      have hfr : Hid (∀ m A9 c9 w9, Own w9 (w.heap.size + 6) 24 1 A9 (J + 1) c9 (ks.map Pt.v ++ #[Value.slice Ao nh co].toList) → AppAt (w7.drewN m) w9 AK A9 → w9.cell? ⟨gH, sN, none⟩ = some (.slice (A sN) nh (c sN)) ∧ w9.frozen? ⟨gH, sN, none⟩ = false ∧ (w9.setCell ⟨gH, sN, none⟩ (.slice none 0 0)).cell? ⟨gE, sN, none⟩ = some (.bool (e sN)) ∧ (w9.setCell ⟨gH, sN, none⟩ (.slice none 0 0)).frozen? ⟨gE, sN, none⟩ = false) := Lib.hid fun m A9 c9 w9 o9 at9 => by
                        obtain ⟨-, q1, q2, q3, q4, -⟩ := (hout.out m A9 c9 w9 o9 at9).cells hs2
                        rw [hlh.out (), hnh.out, hH'.out] at q1
                        rw [hE'.out] at q2 q4
                        rw [hH'.out] at q3
                        have hne : gE ≠ gH := by have := hE'.out; have := hH'.out; omega
                        exact ⟨q1, q3, (World.cell?_of_block (a := ⟨gE, sN, none⟩) (heap_setCell_other w9 _ gE _ hne)).trans q2, (World.frozen?_of_block (a := ⟨gE, sN, none⟩) (heap_setCell_other w9 _ gE _ hne)).trans q4⟩
                      have hneq := hne'.out
                      clear x7 f7 oo uo x0 hen
                      by_cases hk0 : kW = 0
                      · subst hk0
                        clear hk7
                        go_wp2_with (first
                          | (go_at_call 20; refine hsb.out.mono ?_; rintro e3 w8 ⟨rfl, m1, rfl⟩)
                          | (at_builtin; refine wpList_app1 elS _ #[.slice Ao nh co] rfl rfl (.tmp 205) (.tmp 207) rfl rfl (hke.out _) rfl (by intro u hu; simp at hu; subst hu; rfl) (by unfold maxLen; omega) (by omega) hz7 (J + 1) rfl _ rfl ?_; intro A9 c9 w9 o9 at9 _
                             have x9 := Lib.hid (hout.out _ _ _ _ o9 at9)
                             obtain ⟨g1, g2, g3, g4⟩ := hfr.out _ _ _ _ o9 at9
                             clear o9 at9))
                        have x10 := Lib.hid (hlast.out _ _ _ x9.out)
                        go_roundw
                        case rel => exact ⟨i + 1, J + 1, _, _, _, _, _, ks ++ [⟨Ao, lh, co⟩], A9, c9, by omega, by go_num, rfl, Lib.hid (by rw [List.length_append, hJ.out]; rfl), x10⟩
                        case measure => simp [intOf]; omega
                      · have hl0 := hk7 hk0
                        subst hl0
                        obtain rfl : nh = 0 := by have := hnh.out; simpa using this.symm
                        have hk1 : (kW == 0) = false := by simpa using hk0
                        have hk2 : (kW != 0) = true := by simpa using hk0
                        have hk3 : (kW != kW) = false := by simp
                        clear hk7
                        go_wp2_with (at_builtin; refine wpList_app1 elS _ #[.slice Ao 0 co] rfl rfl (.tmp 205) (.tmp 207) rfl rfl (hke.out 0) rfl (by intro u hu; simp at hu; subst hu; rfl) (by unfold maxLen; omega) (by omega) hz7 (J + 1) rfl _ rfl ?_; intro A9 c9 w9 o9 at9 _
                                     have x9 := Lib.hid (hout.out 0 _ _ _ o9 at9)
                                     obtain ⟨g1, g2, g3, g4⟩ := hfr.out 0 _ _ _ o9 at9
                                     clear o9 at9)
                        have x10 := Lib.hid (hlast.out _ _ _ x9.out)
                        go_roundw
                        case rel => exact ⟨i + 1, J + 1, _, _, _, _, _, ks ++ [⟨Ao, [], co⟩], A9, c9, by omega, by go_num, rfl, Lib.hid (by rw [List.length_append, hJ.out]; rfl), x10⟩
                        case measure => simp [intOf]; omega
                    · have d1' : (d == 1) = false := by simpa using d1
                      have hxu : Hid (∀ m, GsI w ru (tot zs (i + 1)) (tot zs (i + 1) + (i + 1)) p e e h h A c D ks AK cK (wx.drewN m)) := Lib.hid fun m => (hIx.out.drewN m).up (by have := hts.out; omega) (by have := hts.out; omega)
                      by_cases d2 : d = 2
                      · subst d2
                        obtain ⟨nh, hnh⟩ : ∃ nh, Hid (∀ _ : Unit, (h sN).length = nh) := ⟨_, Lib.hid fun _ => rfl⟩
                        rw [hnh.out ()] at yH
                        have hhe : Hid (∀ m, Calls Tryd.prog 29 #[pv] (wx.drewN m) fun e w' => e = .returned (.int .i64 (nh : Nat)) ∧ ∃ k, w' = (wx.drewN m).drewN k) := Lib.hid fun m => by
                          have := held_side (W := wx.drewN m) (s := sN) (hsd.out.fr (Fr.of_below (fun _ => False) (below_drewN (Below.refl _ _) m)) (fun _ _ h => h))
                          rw [hpv.out (), hnh.out ()] at this
                          exact this.mono fun _ _ ⟨h1, h2⟩ => ⟨h1, 0, h2.symm⟩
                        clear x2
                        go_wp2_with fail
                        go_quiet ((go_at_call 29; first | exact quiet_d2 (hhe.out _) | exact quiet_d (hhe.out _)))
                        go_wp2_with fail
                        go_roundw
                        case rel => exact ⟨i + 1, J, e, _, _, _, _, ks, AK, cK, by omega, by go_num, rfl, hJ, Lib.hid (hxu.out _)⟩
                        case measure => simp [intOf]; omega
                      · have d2' : (d == 2) = false := by simpa using d2
                        clear x2
                        go_wp2_with fail
                        go_roundw
                        case rel => exact ⟨i + 1, J, e, _, _, _, _, ks, AK, cK, by omega, by go_num, rfl, hJ, Lib.hid (hxu.out 0)⟩
                        case measure => simp [intOf]; omega
            · obtain rfl : i = N := by omega
              have hks := hJ.out
              subst hks
              have hap := Lib.hid (hI.out.apart_all (by have := hI.out.jl; have := hTk.out; omega))
              have hTl := Lib.hid (hT'.out.below hI.out.bel)
              have hlv2 : Hid (∀ W, Below w.heap.size w W → Calls Tryd.prog 16 #[] W fun e w' => e = .returned (.bool true) ∧ Below W.heap.size W w') := Lib.hid fun W hW => lives_any W (hT'.out.below hW)
              go_wp2_with (first
                | (go_at_call 21; refine hap.out.mono ?_; rintro e2 w9 ⟨rfl, hb9, _⟩)
                | (go_at_call 16; refine (hlv2.out _ (hI.out.bel.trans (hb9.mono (Nat.le_add_right _ 6)))).mono ?_; rintro e3 w10 ⟨rfl, hb10⟩))
              go_ret
              exact ⟨rfl, (hI.out.bel.trans (hb9.mono (Nat.le_add_right _ 6))).trans (hb10.mono (by have h1 := hI.out.bel.size; have h2 := hb9.size; omega))⟩
end Go.Proofs.YtnjbpacnmiimlaaDoor

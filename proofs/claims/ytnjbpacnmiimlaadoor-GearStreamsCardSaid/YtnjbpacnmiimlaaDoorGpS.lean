/- GearPieces: what Pieces tells. -/
import Derived.Test.YtnjbpacnmiimlaaDoorGearM
import Derived.Test.YtnjbpacnmiimlaaDoorFxAf
import Derived.BigRegion
import Derived.Deep.RegionHeld3
namespace Go.Proofs.YtnjbpacnmiimlaaDoor
open Go.RowKit Go.Shelf
set_option linter.unusedVariables false
attribute [local go_sem] Oper.semAt_some

theorem gp_slice_mid (A : Option Addr) (L c lo hi : Nat) (H : Int) (hH : H = (hi : Int)) (h1 : lo ≤ hi) (h2 : hi ≤ c) (W : World) :
    (Instr.slice 24 (.slice A L c) (some (.int .i64 (lo : Int))) (some (.int .i64 H)) none).run Tryd.prog W = .ok (.slice (cutA A lo c) (hi - lo) (c - lo)) W := by
  subst hH
  have hs : (sizeOf (Tryd.prog.elem 24)).run Tryd.prog W = .ok 1 W := by kernel_rfl
  rw [run_slice_lh W 24 _ L c (by rw [Tryd.underlying24]; kernel_rfl) .i64 .i64 (lo : Int) (hi : Int) (by omega) (by omega) (by omega), hs]
  simp only [Result.andThen, sliced, Int.toNat_natCast, cutA, Nat.mul_one]

abbrev PRec := Nat × List Nat × Option Addr × Nat
abbrev precV (x : PRec) : Array Value := #[.int .i64 (x.1 : Nat), .slice x.2.2.1 x.2.1.length x.2.2.2]
/-- The k-th piece. -/
def pieceAt (a m x : Int) (l : List Nat) (k : Nat) : Nat × List Nat := (((Gear.cut a m x l).take k).sum, (l.drop ((Gear.cut a m x l).take k).sum).take ((Gear.cut a m x l)[k]?.getD 0))
def PcG (a m x : Int) (l : List Nat) (W0 W1 : World) (pre : List PRec) (y : PRec) : Prop :=
  pre.length < (Gear.cut a m x l).length ∧ (y.1, y.2.1) = pieceAt a m x l pre.length ∧ Own W1 W0.heap.size 5 1 y.2.2.1 y.2.1.length y.2.2.2 (u8s y.2.1) ∧ Below W0.heap.size W0 W1

/-- What stands of the iterator's own. -/
abbrev PcS (w : World) (gr gd : Nat) (a m x : Int) (A : Option Addr) (L c : Nat) (W : World) : Prop :=
  W.cell? ⟨gr, 0, none⟩ = some (.int .i64 a) ∧ W.cell? ⟨gr, 1, none⟩ = some (.int .i64 m) ∧ W.cell? ⟨gr, 2, none⟩ = some (.int .i64 x) ∧ W.cell? ⟨gd, 0, none⟩ = some (.slice A L c) ∧ Below w.heap.size w W
theorem PcS.keep {w W W' : World} {gr gd : Nat} {a m x : Int} {A : Option Addr} {L c : Nat} (h : PcS w gr gd a m x A L c W) (hb : Below W.heap.size W W') : PcS w gr gd a m x A L c W' :=
  ⟨(hb.cell (World.block_lt_of_cell? _ _ h.1)).trans h.1, (hb.cell (World.block_lt_of_cell? _ _ h.2.1)).trans h.2.1, (hb.cell (World.block_lt_of_cell? _ _ h.2.2.1)).trans h.2.2.1, (hb.cell (World.block_lt_of_cell? _ _ h.2.2.2.1)).trans h.2.2.2.1, h.2.2.2.2.trans (hb.mono h.2.2.2.2.size)⟩
theorem mid_rd {w W : World} {B n : Nat} {A : Option Addr} {g : Nat → Value} (h : Rd w B A n g) (hm : Mid 0 w.heap.size w W) : Rd W B A n g := fun hn => by
  obtain ⟨b, off, e, hb, hc⟩ := h hn
  exact ⟨b, off, e, hb, fun j hj => (World.cell?_of_block (hm.block b (Nat.zero_le _) (World.block_lt_of_cell? _ _ (hc j hj)))).trans (hc j hj)⟩
theorem mid_cell0 {w W : World} (hm : Mid 0 w.heap.size w W) {p : Addr} {v : Value} (h : w.cell? p = some v) : W.cell? p = some v := (World.cell?_of_block (hm.block _ (Nat.zero_le _) (World.block_lt_of_cell? _ _ h))).trans h
theorem mid_tz {w W : World} (h : Tz w) (hm : Mid 0 w.heap.size w W) : Tz W := fun j hj => mid_cell0 hm (h j hj)

set_option maxRecDepth 20000 in
set_option maxHeartbeats 2000000 in
theorem pieces_seq (a m x : Int) (l : List Nat) (gr gd : Nat) (A : Option Addr) (c L : Nat) (w : World) (hl : ∀ b ∈ l, b < 256) (hlen : l.length = L) (hL : L ≤ 4194304) (hc : L ≤ c)
    (h0 : w.cell? ⟨gr, 0, none⟩ = some (.int .i64 a)) (h1 : w.cell? ⟨gr, 1, none⟩ = some (.int .i64 m)) (h2 : w.cell? ⟨gr, 2, none⟩ = some (.int .i64 x)) (h3 : w.cell? ⟨gd, 0, none⟩ = some (.slice A L c)) (hA : Byt w w.heap.size A l) (hT : Tz w) :
    SeqW Tryd.prog 33 #[.pointer (some ⟨gr, 0, none⟩), .pointer (some ⟨gd, 0, none⟩)] precV (PcG a m x l) (fun xs => xs.length = (Gear.cut a m x l).length) (fun _ => True) 0 w.heap.size w := by
  intro lp J Jx W hW hJ hY
  have hY' := Lib.hid hY
  have hW' := Lib.hid hW
  have hl' := Lib.hid hl
  have hlen' := Lib.hid hlen
  have hA' := Lib.hid hA
  have hT' := Lib.hid hT
  have h0' := Lib.hid h0
  have h1' := Lib.hid h1
  have h2' := Lib.hid h2
  have h3' := Lib.hid h3
  have q0 := mid_cell0 hW h0
  have q1 := mid_cell0 hW h1
  have q2 := mid_cell0 hW h2
  have q3 := mid_cell0 hW h3
  clear hY hW hl hlen hA hT h0 h1 h2 h3
  refine callsIn_of_wp Tryd.func33 rfl trivial ?_ rfl
  simp only [Tryd.ntmps33, List.size_toArray, List.length_cons, List.length_nil, Nat.reduceAdd, Nat.reduceSub, Array.replicate_succ, Array.replicate_zero, List.push_toArray, List.append_toArray, List.nil_append, List.cons_append]
  have hch := Lib.hid (check_any a m x W)
  by_cases ok : okRule a m x
  · have ck := chk_ok ok
    have ok' := Lib.hid ok
    rw [ck] at hch
    clear ok ck
    gi_wp2_with (refine ⟨trivial, rfl, ?_⟩; gi_at_call 23; refine (callsIn_wide.2 hch.out).mono ?_; rintro e w1 ⟨rfl, hb1⟩)
    gi_loopw [4] (fun i wr => ∃ (pre : List PRec) (p : Nat) (ls : List Nat) (W0 : World), i = .int .i64 p ∧ p ≤ L ∧ Hid (J pre W0) ∧ Hid (Below W0.heap.size W0 wr) ∧ Hid (Mid 0 w.heap.size w wr) ∧ Hid (∀ _ : Unit, Gear.cut a m x l = ls ++ Gear.cut a m x (l.drop p) ∧ ls.length = pre.length ∧ ls.sum = p)) (fun i _ => L - (intOf i).toNat)
    case atStart => exact ⟨[], 0, [], W, rfl, by omega, Lib.hid hJ, Lib.hid hb1, Lib.hid (hW'.out.trans (Mid.of_below hb1 hW'.out.size)), Lib.hid fun _ => ⟨rfl, rfl, rfl⟩⟩
    case round =>
      obtain ⟨pre, p, ls, W0, rfl, hp, hJ, hb0, hmid, hcut⟩ := hrel
      have q0 := mid_cell0 hmid.out h0'.out
      have q1 := mid_cell0 hmid.out h1'.out
      have q2 := mid_cell0 hmid.out h2'.out
      have q3 := mid_cell0 hmid.out h3'.out
      by_cases hlt : p < L
      · obtain ⟨n, hn⟩ : ∃ n, (Gear.scan a m x 0 0 (l.drop p)).1 = n := ⟨_, rfl⟩
        obtain ⟨f, hf2⟩ : ∃ f, Gear.first a m x (l.drop p) = (n, f) := ⟨(Gear.first a m x (l.drop p)).2, by rw [← hn, Gear.first_ok ok'.out]⟩
        obtain ⟨q, hq⟩ : ∃ q, L - p = q := ⟨_, rfl⟩
        obtain ⟨hc2, hn0, hnL⟩ := cut_on ok'.out hlen'.out hlt hn (hcut.out ()).1
        have hr : Byt wr w.heap.size A l := mid_rd hA'.out hmid.out
        have hrp : Byt wr w.heap.size (cutA A p c) (l.drop p) := hr.cut (k := p) (cap := c) (by rw [hlen'.out]; omega) (by rw [hlen'.out]; exact hc)
        have hws := hmid.out.size
        have hfc : Hid (∀ U : World, Below wr.heap.size wr U → Calls Tryd.prog 11 #[.agg #[.int .i64 a, .int .i64 m, .int .i64 x], .slice (cutA A p c) q (c - p)] U fun e w' => e = .returned (.tuple #[.int .i64 (n : Nat), .bool f]) ∧ Below U.heap.size U w') := Lib.hid fun U hU => by
          have := first_any a m x (l.drop p) (cutA A p c) (c - p) q U (by rw [List.length_drop, hlen'.out]; omega) (fun y hy => hl'.out y (List.mem_of_mem_drop hy)) (by omega) ((hrp.below (hU.mono hws)).mono (Nat.le_trans hws hU.size)) ((mid_tz hT'.out hmid.out).below hU)
          rw [hf2] at this
          exact this
        have hsl := fun W => slice_from A L c p (by omega) W
        rw [hq] at hsl
        have hrn : Byt wr w.heap.size (cutA A p c) ((l.drop p).take n) := Byt.take hrp n (by rw [List.length_drop, hlen'.out]; omega)
        have hbl : ((l.drop p).take n).length = n := by rw [List.length_take, List.length_drop, hlen'.out]; omega
        have hpa : Hid (pre.length < (Gear.cut a m x l).length ∧ (p, (l.drop p).take n) = pieceAt a m x l pre.length) := Lib.hid (by
          obtain ⟨c1, c2, c3⟩ := hcut.out ()
          have e1 : (Gear.cut a m x l).take pre.length = ls := by rw [c1, ← c2, List.take_left]
          have e2 : (Gear.cut a m x l)[pre.length]? = some n := by rw [hc2, ← c2]; simp
          refine ⟨(List.getElem?_eq_some_iff.1 e2).1, ?_⟩
          unfold pieceAt
          rw [e1, e2, c3]
          rfl)
        have hnext : Hid (∀ y : PRec, Gear.cut a m x l = (ls ++ [n]) ++ Gear.cut a m x (l.drop (p + n)) ∧ (ls ++ [n]).length = (pre ++ [y]).length ∧ (ls ++ [n]).sum = p + n) := Lib.hid fun y => ⟨hc2, by
          obtain ⟨c1, c2, c3⟩ := hcut.out ()
          simp [c2], by
          obtain ⟨c1, c2, c3⟩ := hcut.out ()
          simp [c3]⟩
        obtain ⟨bd, hbd⟩ : ∃ bd, (l.drop p).take n = bd := ⟨_, rfl⟩
        rw [hbd] at hrn hbl hpa
        have hrn' := Lib.hid hrn
        have hbl' := Lib.hid hbl
        have hcl := Lib.hid fun (U : World) (hU : Below wr.heap.size wr U) => clone_any bd (cutA A p c) n (c - p) w.heap.size U hbl (by omega) (hrn.below (hU.mono hws))
        have hs2 := fun W => gp_slice_mid A L c p (p + n) ((p : Int) + (n : Int)) (by omega) (by omega) (by omega) W
        rw [show p + n - p = n by omega] at hs2
        have hB0 : Hid (PcS wr gr gd a m x A L c wr) := Lib.hid ⟨q0, q1, q2, q3, Below.refl _ _⟩
        clear hn hf2 hc2 hcut hr hrp hrn hbl hbd
        gi_wp2_with fail
        refine wpIn_wide.2 ?_
        go_region_held3 (fun W => PcS wr gr gd a m x A L c W)
          (first | exact hB0.out.keep (below_drewN (Below.refl wr.heap.size wr) 1) | exact PcS.keep (by assumption) hb | assumption)
          (first
            | (go_at_call 11; refine (hfc.out _ (And.right (And.right (And.right (And.right (show PcS wr gr gd a m x A L c _ by assumption)))))).mono ?_; rintro e w' ⟨rfl, hb⟩))
        rename_i hH
        have hC := Lib.hid hH
        clear hH hb hB0 hfc hsl
        have hH := hC.out
        obtain ⟨y0, y1, y2, y3, yb⟩ := hH
        have hyb := Lib.hid yb
        clear yb q0 q1 q2 q3
        gi_wp2_with (refine ⟨trivial, rfl, ?_⟩; gi_at_call 34; refine (callsIn_wide.2 (hcl.out _ hyb.out)).mono ?_; rintro e w2 ⟨⟨A1, c1, rfl, o1⟩, hb1⟩
                     have hB2 := Lib.hid (hyb.out.trans (hb1.mono hyb.out.size))
                     obtain ⟨fn, tmps, assign, body_, hy, hR⟩ := hY'.out pre (p, bd, A1, c1) W0 w2 hJ.out ⟨hpa.out.1, hpa.out.2, by rw [hbl'.out]; exact o1.base (Nat.le_trans hb0.out.size hyb.out.size), hb0.out.trans (hB2.out.mono hb0.out.size)⟩
                     dsimp only [precV] at hy
                     rw [hbl'.out] at hy)
        refine ⟨rfl, hR.mono ?_⟩
        rintro e W' (⟨rfl, hJ3, hb3⟩ | ⟨rfl, hJx⟩)
        · have hb4 := Lib.hid ((hmid.out.trans (Mid.of_below hB2.out hmid.out.size)).trans hb3)
          have hJ3' := Lib.hid hJ3
          have hn2 := Lib.hid (hnext.out (p, bd, A1, c1))
          clear hmid hB2 hb3 o1 hy hR hJ3
          gi_wp2
          go_roundw
          case rel => exact ⟨pre ++ [(p, bd, A1, c1)], p + n, ls ++ [n], W', by go_num, by omega, hJ3', Lib.hid (Below.refl _ _), hb4, Lib.hid fun _ => hn2.out⟩
          case measure => simp [intOf]; omega
        · gi_wp2
          refine bodyPost_ret (results_none rfl _ _ _) rfl ?_
          exact ⟨⟨_, rfl⟩, .inr ⟨_, trivial, hJx⟩⟩
      · obtain rfl : p = L := by omega
        have hfin : Hid (pre.length = (Gear.cut a m x l).length) := Lib.hid (by
          obtain ⟨c1, c2, c3⟩ := hcut.out ()
          rw [List.drop_eq_nil_of_le (by rw [hlen'.out]; omega), Gear.cut_nil, List.append_nil] at c1
          rw [c1, c2])
        gi_wp2
        go_end0
        exact ⟨⟨_, rfl⟩, .inl ⟨pre, W0, hfin.out, hJ.out, hb0.out⟩⟩
  · have ck := chk_no ok
    have hno := Lib.hid fun l => Gear.cut_no ok l
    rw [ck] at hch
    clear ok ck
    gi_wp2_with (refine ⟨trivial, rfl, ?_⟩; gi_at_call 23; refine (callsIn_wide.2 hch.out).mono ?_; rintro e w1 ⟨rfl, hb1⟩)
    refine bodyPost_ret (results_none rfl _ _ _) rfl ?_
    exact ⟨⟨_, rfl⟩, .inl ⟨[], W, by rw [hno.out]; rfl, hJ, hb1⟩⟩
end Go.Proofs.YtnjbpacnmiimlaaDoor

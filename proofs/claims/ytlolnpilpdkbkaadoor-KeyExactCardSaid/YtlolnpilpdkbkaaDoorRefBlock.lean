/- The document's Block. -/
import Derived.Test.YtlolnpilpdkbkaaDoorWords
import Derived.Test.YtlolnpilpdkbkaaDoorOwn2
import Derived.Lib.LaidTab
import Derived.Deep.WholeRow
import Derived.BigRegion
namespace Go.Proofs.YtlolnpilpdkbkaaDoor
open Go.RowKit

theorem list8 {α : Type} {l : List α} (h : l.length = 8) : ∃ a b c d e f g i, l = [a, b, c, d, e, f, g, i] := by
  match l, h with
  | [a, b, c, d, e, f, g, i], _ => exact ⟨a, b, c, d, e, f, g, i, rfl⟩
def u32s (l : List Nat) : List Value := l.map fun b : Nat => .int .u32 (b : Int)
theorem u32s_length (l : List Nat) : (u32s l).length = l.length := by simp [u32s]
theorem u32s_get (l : List Nat) (j : Nat) (h : j < l.length) : (u32s l)[j]? = some (.int .u32 ((l[j]?.getD 0 : Nat) : Int)) := by simp [u32s, h]
theorem u32s_set (l : List Nat) (k x : Nat) : (u32s l).toArray.setIfInBounds k (.int .u32 (x : Int)) = (u32s (l.set k x)).toArray := by
  simp [u32s, List.map_set]
/-- A block that holds a row of words. -/
def Blk32 (w : World) (g : Nat) (t : TypeId) (l : List Nat) : Prop := w.heap[g]? = some (.cells (u32s l).toArray t (0, 0))
section
variable {w w' : World} {g : Nat} {t : TypeId} {l : List Nat}
theorem Blk32.cell (h : Blk32 w g t l) {k : Nat} (hk : k < l.length) : w.cell? ⟨g, k, none⟩ = some (.int .u32 ((l[k]?.getD 0 : Nat) : Int)) := by
  rw [cell_of_row _ _ _ _ _ _ h, List.getElem?_toArray]
  exact u32s_get l k hk
theorem Blk32.frozen (h : Blk32 w g t l) (k : Nat) : w.frozen? ⟨g, k, none⟩ = false := frozen_of_row _ _ _ _ _ h
theorem Blk32.lt (h : Blk32 w g t l) : g < w.heap.size := (Array.getElem?_eq_some_iff.1 h).1
theorem Blk32.below {B : Nat} (h : Blk32 w g t l) (hb : Below B w w') (hg : g < B) : Blk32 w' g t l := (hb.block g hg).trans h
theorem Blk32.drewN (h : Blk32 w g t l) (n : Nat) : Blk32 (w.drewN n) g t l := h
theorem Blk32.drew (h : Blk32 w g t l) : Blk32 w.drew g t l := h
theorem Blk32.alloc (h : Blk32 w g t l) (o : Obj) : Blk32 (w.alloc o) g t l := (Below.heap_alloc w o g h.lt).trans h
theorem Blk32.set (h : Blk32 w g t l) (k x : Nat) : Blk32 (w.setCell ⟨g, k, none⟩ (.int .u32 (x : Int))) g t (l.set k x) := by
  have := heap_setCell_same w g k _ t (.int .u32 (x : Int)) h
  rw [u32s_set] at this
  exact this
theorem Blk32.far (h : Blk32 w g t l) {p : Addr} (hp : g ≠ p.block) (u : Value) : Blk32 (w.setCell p u) g t l := (heap_setCell_other w p g u hp).trans h
theorem Blk32.new (w : World) (t : TypeId) (l : List Nat) : Blk32 (w.alloc (.cells (u32s l).toArray t)) w.heap.size t l := heap_alloc_new w _
end

theorem and_some {a b : Nat} (ha : a < 4294967296) (hb : b < 4294967296) : ∃ c : Nat, bits .and .u64 (a : Int) (b : Int) = (c : Int) ∧ c < 4294967296 ∧ c = a &&& b :=
  ⟨a &&& b, u64_and_nat a b (by omega) (by omega), Nat.lt_of_le_of_lt Nat.and_le_left ha, rfl⟩
theorem or_some {a b : Nat} (ha : a < 4294967296) (hb : b < 4294967296) : ∃ c : Nat, bits .or .u64 (a : Int) (b : Int) = (c : Int) ∧ c < 4294967296 ∧ c = a ||| b :=
  ⟨a ||| b, u64_or_nat a b (by omega) (by omega), Nat.or_lt_two_pow (n := 32) ha hb, rfl⟩
theorem three_some (x a b c : Nat) (hx : x < 4294967296) (ha : a ≤ 31) (ha0 : 1 ≤ a) (hb : b ≤ 31) (hb0 : 1 ≤ b) (hc : c ≤ 31) (hc0 : 1 ≤ c) :
    ∃ r : Nat, r < 4294967296 ∧ r = rot x a ^^^ rot x b ^^^ rot x c ∧ ∀ w : World, Calls Tryd.prog 42 #[.int .u64 x, .int .i64 a, .int .i64 b, .int .i64 c] w fun e w' => e = .returned (.int .u64 (r : Nat)) ∧ ∃ m, w' = w.drewN m :=
  ⟨_, Sha.xor3_lt (rot_lt hx (by omega)) (rot_lt hx (by omega)) (rot_lt hx (by omega)), rfl, fun w => three_any x a b c w hx ha ha0 hb hb0 hc hc0⟩

theorem quiet_d {P : Program} {f : FuncId} {args : Array Value} {w : World} {n : Nat} {v : Value} (h : Calls P f args (w.drewN n) fun e w' => e = .returned v ∧ ∃ m, w' = (w.drewN n).drewN m) :
    Calls P f args (w.drewN n) fun e w'' => e = .returned v ∧ ∃ m, w'' = w.drewN m :=
  h.mono fun _ _ ⟨he, m, hm⟩ => ⟨he, n + m, by rw [hm, World.drewN_drewN]⟩
theorem rounds_len (ws ks : List Nat) {s : List Nat} (hs : s.length = 8) (t : Nat) : (Sha.rounds ws ks s t).length = 8 := by
  cases t with
  | zero => exact hs
  | succ t => rfl
theorem rounds_lt (ws ks : List Nat) {s : List Nat} (hl : ∀ x ∈ s, x < 4294967296) (t : Nat) : ∀ x ∈ Sha.rounds ws ks s t, x < 4294967296 := by
  induction t with
  | zero => exact hl
  | succ t ih =>
    intro x hx
    have g := fun k => getD_lt (by decide) ih k
    simp only [Sha.rounds, Sha.round, List.mem_cons, List.not_mem_nil, or_false] at hx
    rcases hx with rfl | rfl | rfl | rfl | rfl | rfl | rfl | rfl
    · exact Nat.mod_lt _ (by decide)
    · exact g 0
    · exact g 1
    · exact g 2
    · exact Nat.mod_lt _ (by decide)
    · exact g 4
    · exact g 5
    · exact g 6
def zerW (n : Nat) : List Nat := List.replicate n 0
theorem zero8 (w : World) : (zeroValue 61).run Tryd.prog w = .ok (.agg (u32s (zerW 8)).toArray) w :=
  (zero_of_info (P := Tryd.prog) (t := 61) (v := .agg (u32s (zerW 8)).toArray) (n := 8) (by kernel_rfl)).1 w
/-- The sums, i of them done. -/
def outTo (s r : List Nat) (i : Nat) : List Nat := (List.range i).map (fun j => (s[j]?.getD 0 + r[j]?.getD 0) % 4294967296) ++ zerW (8 - i)
theorem outTo_set (s r : List Nat) {i : Nat} (h : i < 8) : (outTo s r i).set i ((s[i]?.getD 0 + r[i]?.getD 0) % 4294967296) = outTo s r (i + 1) := by
  unfold outTo zerW
  rw [List.set_append_right _ _ (by simp), List.range_succ, List.map_append, List.append_assoc]
  congr 1
  obtain ⟨m, hm⟩ : ∃ m, 8 - i = m + 1 := ⟨7 - i, by omega⟩
  rw [hm, List.replicate_succ, show 8 - (i + 1) = m by omega]
  simp
theorem outTo_len (s r : List Nat) {i : Nat} (h : i ≤ 8) : (outTo s r i).length = 8 := by simp [outTo, zerW]; omega
theorem outTo_all (ks s b : List Nat) : outTo s (Sha.rounds (Sha.wordsTo b 64) ks s 64) 8 = Sha.blockL ks s b := by simp [outTo, Sha.blockL, zerW]

theorem setRow_belS {B : Nat} {a w : World} (h : Below B a w) {g : Nat} (hg : B ≤ g) (cs : Array Value) : Below B a (w.setRow g cs) :=
  h.trans ⟨rfl, rfl, rfl, by simp, fun k hk => setRow_other _ _ _ _ (by omega)⟩
/-- What stands while the document's Block runs. -/
structure RB (w wr : World) (s : List Nat) (ks ws : List Nat) (gw cw : Nat) : Prop where
  bel : Below w.heap.size w wr
  st : Blk32 wr w.heap.size 61 s
  res : Blk32 wr (w.heap.size + 1) 61 (zerW 8)
  ow : Own wr (w.heap.size + 2) 63 1 (some ⟨gw, 0, none⟩) 64 cw (u64s ws)
theorem RB.keep {w wr w' : World} {s ks ws : List Nat} {gw cw : Nat} (h : RB w wr s ks ws gw cw) (hb : Below wr.heap.size wr w') : RB w w' s ks ws gw cw :=
  ⟨h.bel.trans (hb.mono h.bel.size), h.st.below hb h.st.lt, h.res.below hb h.res.lt, h.ow.below hb (fun k hk => (h.ow.lt k hk).2)⟩
theorem RB.drewN {w wr : World} {s ks ws : List Nat} {gw cw : Nat} (h : RB w wr s ks ws gw cw) (n : Nat) : RB w (wr.drewN n) s ks ws gw cw := ⟨below_drewN h.bel n, h.st, h.res, h.ow⟩

set_option maxRecDepth 100000 in
set_option maxHeartbeats 4000000 in
theorem refBlock_any (s b ks : List Nat) (A : Option Addr) (c : Nat) (w : World) (hs : s.length = 8) (hsl : ∀ x ∈ s, x < 4294967296) (hb : ∀ x ∈ b, x < 256) (hn : b.length = 64) (h : Byt w w.heap.size A b)
    (hk : ks.length = 64) (hkl : ∀ x ∈ ks, x < 4294967296) (hT : ∀ wr : World, Below w.heap.size w wr → ∀ t, t < 64 → wr.cell? ⟨1, t, none⟩ = some (.int .u64 ((ks[t]?.getD 0 : Nat) : Int))) :
    Calls Tryd.prog 33 #[.agg (u32s s).toArray, .slice A 64 c] w fun e w' => e = .returned (.agg (u32s (Sha.blockL ks s b)).toArray) ∧ Below w.heap.size w w' := by
  have hz := zero8
  have hB0 : Below w.heap.size w ((w.alloc (.cells (u32s s).toArray 61)).alloc (.cells (u32s (zerW 8)).toArray 61)) := ((Below.refl _ _).alloc (Nat.le_refl _) _).alloc (by simp) _
  have hst : Blk32 ((w.alloc (.cells (u32s s).toArray 61)).alloc (.cells (u32s (zerW 8)).toArray 61)) w.heap.size 61 s := heap_alloc2_old w _ _
  have hres : Blk32 ((w.alloc (.cells (u32s s).toArray 61)).alloc (.cells (u32s (zerW 8)).toArray 61)) (w.heap.size + 1) 61 (zerW 8) := heap_alloc2_new w _ _
  have hwo := Lib.hid (words_any b A c w.heap.size ((w.alloc (.cells (u32s s).toArray 61)).alloc (.cells (u32s (zerW 8)).toArray 61)) hb hn (by simp; omega) (h.below hB0))
  have hsz0 : ((w.alloc (.cells (u32s s).toArray 61)).alloc (.cells (u32s (zerW 8)).toArray 61)).heap.size = w.heap.size + 2 := by simp
  have hB0' := Lib.hid hB0
  have hst' := Lib.hid hst
  have hres' := Lib.hid hres
  have hs' := Lib.hid hs
  have hsl' := Lib.hid hsl
  have hk' := Lib.hid hk
  have hkl' := Lib.hid hkl
  have hT' := Lib.hid hT
  have hwl := Lib.hid (wordsTo_lt hb 64)
  have hsz0' := Lib.hid hsz0
  clear hB0 hst hres hs hsl hk hkl hT hb hn h hsz0
  go_enter Tryd.func33, Tryd.ntmps33
  go_wp2_with fail
  refine hwo.out.mono ?_
  rintro e w2 ⟨⟨A2, c2, rfl, ow⟩, hb2⟩
  rw [hsz0'.out] at ow hb2
  obtain ⟨gw, rfl⟩ := ow.head (by omega)
  have R := Lib.hid (RB.mk (ks := ks) (hB0'.out.trans (hb2.mono (by omega))) (hst'.out.below hb2 (by omega)) (hres'.out.below hb2 (by omega)) ow)
  have hsz2 : w.heap.size + 2 ≤ w2.heap.size := by have := hb2.size; rw [hsz0'.out] at this; exact this
  clear hwo ow hb2 hB0' hst' hres' hsz0'
  generalize hws : Sha.wordsTo b 64 = ws at R hwl
  have hws' : Hid (∀ _ : Unit, Sha.wordsTo b 64 = ws) := Lib.hid fun _ => hws
  clear hws
  go_wp2_with fail
  go_loopw [6, 7] (fun sl i wr => ∃ (k : Nat) (A' : Option Addr) (c' : Nat), k ≤ 8 ∧ i = .int .i64 k ∧ sl = .slice A' k c' ∧ Hid (Own wr w2.heap.size 63 1 A' k c' (u64s (s.take k))) ∧ Hid (Below w2.heap.size w2 wr)) (fun _ i _ => 8 - (intOf i).toNat)
  case atStart => exact ⟨0, none, 0, by omega, rfl, rfl, Lib.hid (Own.nil _ _ _ _), Lib.hid (Below.refl _ _)⟩
  case round =>
    obtain ⟨k, A', c', hk, rfl, rfl, hown, hbel⟩ := hrel
    by_cases hlt : k < 8
    · have q := (R.out.keep hbel.out).st.cell (k := k) (by rw [hs'.out]; exact hlt)
      have hl := getD_lt (by decide) hsl'.out k
      have ht : Hid (u64s (s.take (k + 1)) = u64s (s.take k) ++ [.int .u64 ((s[k]?.getD 0 : Nat) : Int)]) := Lib.hid (by
        rw [← u64s_snoc, List.take_add_one, List.getElem?_eq_getElem (by rw [hs'.out]; exact hlt)]
        rfl)
      generalize s[k]?.getD 0 = x at q hl ht
      have hsb := hbel.out.size
      go_wp2_with (at_builtin; refine wpList_app1 elU _ #[_] rfl rfl _ _ rfl rfl hown.out rfl (by intro u hu; simp at hu; subst hu; rfl) (by unfold maxLen; omega) (by omega) hsb (k + 1) rfl _ rfl ?_; intro A3 c3 w3 o3 _ hb3)
      go_roundw
      case rel => exact ⟨k + 1, A3, c3, by omega, by go_num, rfl, Lib.hid (by rw [ht.out]; exact o3), Lib.hid (hbel.out.trans hb3)⟩
      case measure => simp [intOf]; omega
    · rw [show (k : Int) = (8 : Int) by omega, show k = 8 by omega]
      rw [show k = 8 by omega] at hown
      obtain ⟨gs, rfl⟩ := hown.out.head (by omega)
      have hown2 := Lib.hid hown.out
      rw [List.take_of_length_le (by rw [hs'.out]; exact Nat.le_refl _)] at hown2
      clear hown hlt hk
      go_wp2_with fail
      go_loopw [6, 8] (fun sl i wr => ∃ (t gs c' : Nat), t ≤ 64 ∧ i = .int .i64 t ∧ sl = .slice (some ⟨gs, 0, none⟩) 8 c' ∧ Hid (Own wr w2.heap.size 63 1 (some ⟨gs, 0, none⟩) 8 c' (u64s (Sha.rounds ws ks s t))) ∧ Hid (Below w2.heap.size w2 wr)) (fun _ i _ => 64 - (intOf i).toNat)
      case atStart => exact ⟨0, gs, _, by omega, rfl, rfl, hown2, hbel⟩
      case round =>
        clear hown2 hbel
        obtain ⟨t, gs, c', ht, rfl, rfl, hown, hbel⟩ := hrel
        by_cases hlt : t < 64
        · have hlen := rounds_len ws ks hs'.out t
          have hrl := rounds_lt ws ks hsl'.out t
          have hnext : Hid (Sha.rounds ws ks s (t + 1) = Sha.round (Sha.rounds ws ks s t) (ws[t]?.getD 0) (ks[t]?.getD 0)) := Lib.hid rfl
          have qk := hT'.out wr (R.out.keep hbel.out).bel t hlt
          have qw := (R.out.keep hbel.out).ow.cell t (by omega)
          have hwlen : ws.length = 64 := by have := R.out.ow.len; rw [u64s_length] at this; omega
          rw [u64s_get _ t (by rw [hwlen]; exact hlt)] at qw
          have lw := getD_lt (by decide) hwl.out t
          have lk := getD_lt (by decide) hkl'.out t
          generalize Sha.rounds ws ks s t = S at hlen hrl hown hnext
          obtain ⟨a, b1, c1, d, e, f, g, h, rfl⟩ := list8 hlen
          generalize ws[t]?.getD 0 = wt at qw lw hnext
          generalize ks[t]?.getD 0 = kt at qk lk hnext
          have la : a < 4294967296 := hrl a (by simp)
          have lb : b1 < 4294967296 := hrl b1 (by simp)
          have lc : c1 < 4294967296 := hrl c1 (by simp)
          have ld : d < 4294967296 := hrl d (by simp)
          have le : e < 4294967296 := hrl e (by simp)
          have lf : f < 4294967296 := hrl f (by simp)
          have lg : g < 4294967296 := hrl g (by simp)
          have lh : h < 4294967296 := hrl h (by simp)
          have q0 := hown.out.cell 0 (by omega)
          have q1 := hown.out.cell 1 (by omega)
          have q2 := hown.out.cell 2 (by omega)
          have q3 := hown.out.cell 3 (by omega)
          have q4 := hown.out.cell 4 (by omega)
          have q5 := hown.out.cell 5 (by omega)
          have q6 := hown.out.cell 6 (by omega)
          have q7 := hown.out.cell 7 (by omega)
          simp only [u64s, List.map_cons, List.map_nil, List.getElem?_cons_zero, List.getElem?_cons_succ] at q0 q1 q2 q3 q4 q5 q6 q7
          clear hlen hrl hwlen
          obtain ⟨ne, hne⟩ : ∃ ne : Nat, ne = 4294967295 - e := ⟨_, rfl⟩
          have lne : ne < 4294967296 := by omega
          have ene : (4294967295 : Int) - (e : Int) = (ne : Int) := by omega
          obtain ⟨x1, f1, l1, v1⟩ := and_some le lf
          obtain ⟨x2, f2, l2, v2⟩ := and_some lne lg
          obtain ⟨ch, f3, lch, v3⟩ := or_some l1 l2
          obtain ⟨y1, f4, l4, v4⟩ := and_some la lb
          obtain ⟨y2, f5, l5, v5⟩ := and_some la lc
          obtain ⟨y3, f6, l6, v6⟩ := or_some l4 l5
          obtain ⟨y4, f7, l7, v7⟩ := and_some lb lc
          obtain ⟨mo, f8, lmo, v8⟩ := or_some l6 l7
          obtain ⟨r1, lr1, u1, c4⟩ := three_some e 6 11 25 le (by omega) (by omega) (by omega) (by omega) (by omega) (by omega)
          obtain ⟨r2, lr2, u2, c5⟩ := three_some a 2 13 22 la (by omega) (by omega) (by omega) (by omega) (by omega) (by omega)
          have hround : Hid (Sha.round [a, b1, c1, d, e, f, g, h] wt kt = [(h + r1 + ch + kt + wt + (r2 + mo)) % 4294967296, a, b1, c1, (d + (h + r1 + ch + kt + wt)) % 4294967296, e, f, g]) := Lib.hid (by
            rw [v3, v1, v2, hne, v8, v6, v4, v5, v7, u1, u2]
            rfl)
          have c4' := Lib.hid c4
          have c5' := Lib.hid c5
          clear v1 v2 v3 v4 v5 v6 v7 v8 u1 u2 c4 c5 hne
          go_wp2_with fail
          go_quiet ((go_at_call 42; exact quiet_d (c4'.out _)))
          clear f1 f2 f3 f4 f5 f6 f7 f8 q0 q1 q2 q4 q5 q6 q7 qk qw ene
          go_wp2_with (go_at_call 42; refine (c5'.out _).mono ?_; rintro e w' ⟨rfl, m2, rfl⟩)
          have hol := Own.lit (wr.drewN (nq + m2)) w2.heap.size 63 1 8 #[.int .u64 (((h : Int) + r1 + ch + kt + wt + (r2 + mo)) % 4294967296), .int .u64 a, .int .u64 b1, .int .u64 c1, .int .u64 (((d : Int) + (h + r1 + ch + kt + wt)) % 4294967296), .int .u64 e, .int .u64 f, .int .u64 g] rfl (by unfold maxLen; omega) hbel.out.size
          have hbl := Lib.hid ((below_drewN hbel.out (nq + m2)).alloc hbel.out.size (.cells #[.int .u64 (((h : Int) + r1 + ch + kt + wt + (r2 + mo)) % 4294967296), .int .u64 a, .int .u64 b1, .int .u64 c1, .int .u64 (((d : Int) + (h + r1 + ch + kt + wt)) % 4294967296), .int .u64 e, .int .u64 f, .int .u64 g] 63))
          go_roundw
          case rel => exact ⟨t + 1, wr.heap.size, 8, by omega, by go_num, rfl, Lib.hid (by rw [hnext.out, hround.out]; simpa [u64s] using hol), hbl⟩
          case measure => simp [intOf]; omega
        · rw [show (t : Int) = (64 : Int) by omega]
          rw [show t = 64 by omega] at hown
          obtain ⟨wo, rfl⟩ : ∃ wo : World, wo = wr := ⟨_, rfl⟩
          have Rf := Lib.hid (R.out.keep hbel.out)
          have hrl := Lib.hid (rounds_lt ws ks hsl'.out 64)
          have hrn := Lib.hid (rounds_len ws ks hs'.out 64)
          have hall := Lib.hid (fun r i => outTo_set s r (i := i))
          have hfin : Hid (∀ b, Sha.wordsTo b 64 = ws → outTo s (Sha.rounds ws ks s 64) 8 = Sha.blockL ks s b) := Lib.hid (fun b e => by rw [← e]; exact outTo_all ks s b)
          generalize Sha.rounds ws ks s 64 = r at hown hrl hrn hfin
          go_wp2_with fail
          go_loopw [21] (fun i wx => ∃ k : Nat, k ≤ 8 ∧ i = .int .i64 k ∧ Hid (Below wo.heap.size wo wx) ∧ Hid (Blk32 wx wo.heap.size 61 (outTo s r k))) (fun i _ => 8 - (intOf i).toNat)
          case atStart => exact ⟨0, by omega, rfl, Lib.hid ((Below.refl _ _).alloc (Nat.le_refl _) _), Lib.hid (Blk32.new _ _ _)⟩
          case round =>
            obtain ⟨k, hk, rfl, hb3, ho⟩ := hrel
            by_cases hlt : k < 8
            · have R3 := (Rf.out.keep hb3.out).st.cell (k := k) (by rw [hs'.out]; exact hlt)
              have o3 := hown.out.below hb3.out (fun i hi => (hown.out.lt i hi).2)
              have q3 := o3.cell k (by omega)
              rw [u64s_get _ k (by rw [hrn.out]; exact hlt)] at q3
              have q4 := ho.out.cell (k := k) (by rw [outTo_len s r hk]; exact hlt)
              have q5 := ho.out.frozen k
              have l1 := getD_lt (by decide) hsl'.out k
              have l2 := getD_lt (by decide) hrl.out k
              have hset := Lib.hid (ho.out.set k ((s[k]?.getD 0 + r[k]?.getD 0) % 4294967296))
              rw [outTo_set s r hlt] at hset
              have hbs := Lib.hid (hb3.out.setCell (p := ⟨wo.heap.size, k, none⟩) (Nat.le_refl wo.heap.size) (.int .u32 (((s[k]?.getD 0 + r[k]?.getD 0) % 4294967296 : Nat) : Int)))
              generalize s[k]?.getD 0 = x at R3 l1 hset hbs
              generalize r[k]?.getD 0 = y at q3 l2 hset hbs
              have k0 : (0 : Int) ≤ (k : Int) := by omega
              have k1 : (k : Int) < 8 := by omega
              clear o3
              go_wp2_with fail
              go_region
              go_wp2_with fail
              go_roundw
              case rel => exact ⟨k + 1, by omega, by go_num, Lib.hid (by have := hbs.out.drew; simpa using this), Lib.hid (by have := hset.out.drew; simpa using this)⟩
              case measure => simp [intOf]; omega
            · rw [show k = 8 by omega] at ho
              rw [show (k : Int) = (8 : Int) by omega]
              have Re := (Rf.out.keep hb3.out).res
              have hlast := Lib.hid ho.out
              have hB3 := Lib.hid (Rf.out.bel.trans (hb3.out.mono Rf.out.bel.size))
              clear ho
              have hsz8 : (u32s (outTo s r 8)).toArray.size = 8 := by simp [u32s, outTo_len s r (Nat.le_refl 8)]
              have hszz : (u32s (zerW 8)).toArray.size = 8 := by simp [u32s, zerW]
              have hinfo : (Tryd.prog.info? 61).map (·.size) = some 8 := by kernel_rfl
              go_wp2_with (first
                | (refine wpList_load_row rfl 61 _ rfl wo.heap.size rfl 61 (u32s (outTo s r 8)).toArray (0, 0) _ hlast.out Tryd.underlying61 rfl (by rw [hsz8]; exact hinfo) ?_)
                | (refine wpList_store_row rfl 61 _ _ rfl (w.heap.size + 1) (u32s (outTo s r 8)).toArray rfl rfl 61 _ Re (by rw [hsz8]; exact hinfo) (by rw [hsz8, hszz]) (by simp [u32s, Value.oneCell']) ?_))
              have hset := setRow_heap wr (w.heap.size + 1) _ (u32s (outTo s r 8)).toArray 61 _ Re
              refine bodyPost_ret (results_cell_row rfl _ _ (w.heap.size + 1) 61 (u32s (outTo s r 8)).toArray (0, 0) _ rfl hset Tryd.underlying61 rfl (by rw [hsz8]; exact hinfo)) rfl ⟨?_, setRow_belS hB3.out (by omega) _⟩
              rw [hfin.out b (hws'.out ())]
end Go.Proofs.YtlolnpilpdkbkaaDoor

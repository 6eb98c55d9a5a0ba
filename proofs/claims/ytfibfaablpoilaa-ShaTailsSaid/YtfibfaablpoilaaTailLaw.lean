/- ShaTails: the law's walk. -/
import Derived.Test.YtfibfaablpoilaaTail
import Derived.Test.YtfibfaablpoilaaSame
import Derived.Test.YtfibfaablpoilaaArgs
import Derived.ProofKit
import Derived.OpenShut
namespace Go.Proofs.Ytfibfaablpoilaa
open Go.RowKit

theorem tailOf_len (n : Nat) : (tailOf n).length = (noughts n + 9) := tailOf_length n
/-- A tail whose first k bytes are written over. -/
def fillTo (x n k : Nat) : List Nat := List.replicate k x ++ (tailOf n).drop k
theorem fillTo_length {x n k : Nat} (h : k ≤ (noughts n + 9)) : (fillTo x n k).length = (noughts n + 9) := by
  have := tailOf_len n
  simp [fillTo]
  omega
theorem fillTo_zero (x n : Nat) : fillTo x n 0 = tailOf n := by simp [fillTo]
theorem fillTo_all (x n : Nat) : fillTo x n (noughts n + 9) = List.replicate (noughts n + 9) x := by
  have := tailOf_len n
  rw [fillTo, List.drop_of_length_le (by omega), List.append_nil]
theorem fillTo_set {x n k : Nat} (h : k < (noughts n + 9)) : (u8s (fillTo x n k)).set k (.int .u8 x) = u8s (fillTo x n (k + 1)) := by
  have hl := tailOf_len n
  have h1 : (tailOf n).drop k = (tailOf n)[k]'(by omega) :: (tailOf n).drop (k + 1) := List.drop_eq_getElem_cons (by omega)
  rw [fillTo, fillTo, h1, u8s_append, List.set_append_right _ _ (by simp [u8s]), List.replicate_succ', List.append_assoc, u8s_append]
  congr 1
  generalize (tailOf n).drop (k + 1) = d
  simp [u8s]

structure Four (B n : Nat) (w : World) (gw ga gb gc cw ca cb cc : Nat) (la lb : List Nat) : Prop where
  ow : Own w B 5 1 (some ⟨gw, 0, none⟩) (noughts n + 9) cw (u8s (tailOf n))
  oa : Own w B 5 1 (some ⟨ga, 0, none⟩) (noughts n + 9) ca (u8s la)
  ob : Own w B 5 1 (some ⟨gb, 0, none⟩) (noughts n + 9) cb (u8s lb)
  oc : Own w B 5 1 (some ⟨gc, 0, none⟩) (noughts n + 9) cc (u8s (tailOf n))
  wa : gw ≠ ga
  wb : gw ≠ gb
  wc : gw ≠ gc
  ab : ga ≠ gb
  ac : ga ≠ gc
  bc : gb ≠ gc

section
variable {B n : Nat} {w : World} {gw ga gb gc cw ca cb cc : Nat} {la lb : List Nat}
theorem Four.setA (h : Four B n w gw ga gb gc cw ca cb cc la lb) (j : Nat) (u : Value) (l' : List Nat) (hl : (u8s la).set j u = u8s l') : Four B n (w.setCell ⟨ga, j, none⟩ u) gw ga gb gc cw ca cb cc l' lb where
  ow := h.ow.kept (h.oa.set_grown j u) (by intro k hk he; cases hk; cases he; exact h.wa rfl)
  oa := hl ▸ h.oa.set j u
  ob := h.ob.kept (h.oa.set_grown j u) (by intro k hk he; cases hk; cases he; exact h.ab rfl)
  oc := h.oc.kept (h.oa.set_grown j u) (by intro k hk he; cases hk; cases he; exact h.ac rfl)
  wa := h.wa
  wb := h.wb
  wc := h.wc
  ab := h.ab
  ac := h.ac
  bc := h.bc
theorem Four.setB (h : Four B n w gw ga gb gc cw ca cb cc la lb) (j : Nat) (u : Value) (l' : List Nat) (hl : (u8s lb).set j u = u8s l') : Four B n (w.setCell ⟨gb, j, none⟩ u) gw ga gb gc cw ca cb cc la l' where
  ow := h.ow.kept (h.ob.set_grown j u) (by intro k hk he; cases hk; cases he; exact h.wb rfl)
  ob := hl ▸ h.ob.set j u
  oa := h.oa.kept (h.ob.set_grown j u) (by intro k hk he; cases hk; cases he; exact h.ab rfl)
  oc := h.oc.kept (h.ob.set_grown j u) (by intro k hk he; cases hk; cases he; exact h.bc rfl)
  wa := h.wa
  wb := h.wb
  wc := h.wc
  ab := h.ab
  ac := h.ac
  bc := h.bc
theorem Four.drewN (h : Four B n w gw ga gb gc cw ca cb cc la lb) (m : Nat) : Four B n (w.drewN m) gw ga gb gc cw ca cb cc la lb := ⟨h.ow, h.oa, h.ob, h.oc, h.wa, h.wb, h.wc, h.ab, h.ac, h.bc⟩
theorem Own.set_below {e size m c g : Nat} {xs : List Value} (h : Own w B e size (some ⟨g, 0, none⟩) m c xs) (hB : B ≤ w.heap.size) (j : Nat) (u : Value) : Below B w (w.setCell ⟨g, j, none⟩ u) :=
  grown_below (h.set_grown j u) hB (by intro k hk; cases hk; exact (h.lt g rfl).1)
end

/-- Bytes as the walks of 'same', 'all' want them. -/
theorem Own.bs {w : World} {B e n c : Nat} {A : Option Addr} {l : List Nat} (h : Own w B e 1 A n c (u8s l)) (hl : l.length = n) : Bs w w.heap.size A n (fun j => ((l[j]?.getD 0 : Nat) : Int)) := by
  subst hl
  exact h.byt

/-- What stands while x, y, z are grown. -/
structure Trio (B n : Nat) (w : World) (gw ga gb gc : Nat) (kx ky kz : Nat) (X Y Z : Option Addr) (cx cy cz : Nat) : Prop where
  ox : Own w B 5 1 X ((noughts n + 9) + kx) cx (u8s (List.replicate ((noughts n + 9) + kx) 17))
  oy : Own w B 5 1 Y ((noughts n + 9) + ky) cy (u8s (List.replicate ((noughts n + 9) + ky) 34))
  oz : Own w B 5 1 Z ((noughts n + 9) + kz) cz (u8s (tailOf n ++ List.replicate kz 51))
  xy : Dis X Y
  xz : Dis X Z
  yz : Dis Y Z
  rw : Bs w w.heap.size (some ⟨gw, 0, none⟩) (noughts n + 9) (fun j => (((tailOf n)[j]?.getD 0 : Nat) : Int))
  ra : Bs w w.heap.size (some ⟨ga, 0, none⟩) (noughts n + 9) (fun _ => 17)
  rb : Bs w w.heap.size (some ⟨gb, 0, none⟩) (noughts n + 9) (fun _ => 34)
  rc : Bs w w.heap.size (some ⟨gc, 0, none⟩) (noughts n + 9) (fun j => (((tailOf n)[j]?.getD 0 : Nat) : Int))
  xw : blockOf X ≠ some gw
  yw : blockOf Y ≠ some gw
  zw : blockOf Z ≠ some gw
  xb : blockOf X ≠ some gb
  xc : blockOf X ≠ some gc
  ya : blockOf Y ≠ some ga
  yc : blockOf Y ≠ some gc
  za : blockOf Z ≠ some ga
  zb : blockOf Z ≠ some gb

theorem rep_get {x m j : Nat} (h : j < m) : (u8s (List.replicate m x))[j]? = some (.int .u8 (x : Int)) := by simp [u8s, h]
theorem rep_one (x m : Nat) : u8s (List.replicate m x) ++ [.int .u8 (x : Int)] = u8s (List.replicate (m + 1) x) := by simp [u8s, List.replicate_succ']
theorem tail_one (l : List Nat) (x m : Nat) : u8s (l ++ List.replicate m x) ++ [.int .u8 (x : Int)] = u8s (l ++ List.replicate (m + 1) x) := by simp [u8s, List.replicate_succ']
theorem Bs.blk {w : World} {B b n : Nat} {g : Nat → Int} (h : Bs w B (some ⟨b, 0, none⟩) n g) (hn : 0 < n) : b < w.heap.size := by
  obtain ⟨b', off, he, _, hc⟩ := h hn
  cases he
  exact World.block_lt_of_cell? _ _ (hc 0 hn)

section
variable {B n : Nat} {w w' : World} {gw ga gb gc kx ky kz cx cy cz c' : Nat} {X Y Z A' : Option Addr}
theorem Trio.stepX (h : Trio B n w gw ga gb gc kx ky kz X Y Z cx cy cz) (hat : AppAt w w' X A') (ho : Own w' B 5 1 A' ((noughts n + 9) + kx + 1) c' (u8s (List.replicate ((noughts n + 9) + kx) 17) ++ [.int .u8 17])) :
    Trio B n w' gw ga gb gc (kx + 1) ky kz A' Y Z c' cy cz where
  ox := by have := ho; rw [show (17 : Int) = ((17 : Nat) : Int) from rfl, rep_one] at this; exact this
  oy := hat.other h.oy h.xy
  oz := hat.other h.oz h.xz
  xy := hat.dis h.oy h.xy
  xz := hat.dis h.oz h.xz
  yz := h.yz
  rw := hat.far h.rw h.xw
  ra := hat.prefix_ (xs := u8s (List.replicate ((noughts n + 9) + kx) 17)) (ys := [.int .u8 17]) ho h.ra (fun _ j hj => rep_get (by omega))
  rb := hat.far h.rb h.xb
  rc := hat.far h.rc h.xc
  xw := hat.off (h.rw.blk (by omega)) h.xw
  yw := h.yw
  zw := h.zw
  xb := hat.off (h.rb.blk (by omega)) h.xb
  xc := hat.off (h.rc.blk (by omega)) h.xc
  ya := h.ya
  yc := h.yc
  za := h.za
  zb := h.zb
theorem Trio.stepY (h : Trio B n w gw ga gb gc kx ky kz X Y Z cx cy cz) (hat : AppAt w w' Y A') (ho : Own w' B 5 1 A' ((noughts n + 9) + ky + 1) c' (u8s (List.replicate ((noughts n + 9) + ky) 34) ++ [.int .u8 34])) :
    Trio B n w' gw ga gb gc kx (ky + 1) kz X A' Z cx c' cz where
  oy := by have := ho; rw [show (34 : Int) = ((34 : Nat) : Int) from rfl, rep_one] at this; exact this
  ox := hat.other h.ox h.xy.symm
  oz := hat.other h.oz h.yz
  xy := (hat.dis h.ox h.xy.symm).symm
  xz := h.xz
  yz := hat.dis h.oz h.yz
  rw := hat.far h.rw h.yw
  rb := hat.prefix_ (xs := u8s (List.replicate ((noughts n + 9) + ky) 34)) (ys := [.int .u8 34]) ho h.rb (fun _ j hj => rep_get (by omega))
  ra := hat.far h.ra h.ya
  rc := hat.far h.rc h.yc
  yw := hat.off (h.rw.blk (by omega)) h.yw
  xw := h.xw
  zw := h.zw
  xb := h.xb
  xc := h.xc
  ya := hat.off (h.ra.blk (by omega)) h.ya
  yc := hat.off (h.rc.blk (by omega)) h.yc
  za := h.za
  zb := h.zb
theorem Trio.stepZ (h : Trio B n w gw ga gb gc kx ky kz X Y Z cx cy cz) (hat : AppAt w w' Z A') (ho : Own w' B 5 1 A' ((noughts n + 9) + kz + 1) c' (u8s (tailOf n ++ List.replicate kz 51) ++ [.int .u8 51])) :
    Trio B n w' gw ga gb gc kx ky (kz + 1) X Y A' cx cy c' where
  oz := by have := ho; rw [show (51 : Int) = ((51 : Nat) : Int) from rfl, tail_one] at this; exact this
  ox := hat.other h.ox h.xz.symm
  oy := hat.other h.oy h.yz.symm
  xy := h.xy
  xz := (hat.dis h.ox h.xz.symm).symm
  yz := (hat.dis h.oy h.yz.symm).symm
  rw := hat.far h.rw h.zw
  rc := hat.prefix_ (xs := u8s (tailOf n ++ List.replicate kz 51)) (ys := [.int .u8 51]) ho h.rc (fun _ j hj => by
    have hl := tailOf_len n
    have := u8s_get (tailOf n ++ List.replicate kz 51) j (by simp; omega)
    rw [this, List.getElem?_append_left (by omega)])
  ra := hat.far h.ra h.za
  rb := hat.far h.rb h.zb
  zw := hat.off (h.rw.blk (by omega)) h.zw
  xw := h.xw
  yw := h.yw
  xb := h.xb
  xc := h.xc
  ya := h.ya
  yc := h.yc
  za := hat.off (h.ra.blk (by omega)) h.za
  zb := hat.off (h.rb.blk (by omega)) h.zb
end

theorem Four.trio {B n : Nat} {w : World} {gw ga gb gc cw ca cb cc : Nat} (h : Four B n w gw ga gb gc cw ca cb cc (List.replicate (noughts n + 9) 17) (List.replicate (noughts n + 9) 34)) :
    Trio B n w gw ga gb gc 0 0 0 (some ⟨ga, 0, none⟩) (some ⟨gb, 0, none⟩) (some ⟨gc, 0, none⟩) ca cb cc where
  ox := h.oa
  oy := h.ob
  oz := by simpa using h.oc
  xy := by intro k h1 h2; cases h1; cases h2; exact h.ab rfl
  xz := by intro k h1 h2; cases h1; cases h2; exact h.ac rfl
  yz := by intro k h1 h2; cases h1; cases h2; exact h.bc rfl
  rw := h.ow.bs (tailOf_length n)
  rc := h.oc.bs (tailOf_length n)
  ra := (h.oa.bs (by simp)).congr fun j hj => by simp [hj]
  rb := (h.ob.bs (by simp)).congr fun j hj => by simp [hj]
  xw := by intro e; cases e; exact h.wa rfl
  yw := by intro e; cases e; exact h.wb rfl
  zw := by intro e; cases e; exact h.wc rfl
  xb := by intro e; cases e; exact h.ab rfl
  xc := by intro e; cases e; exact h.ac rfl
  ya := by intro e; cases e; exact h.ab rfl
  yc := by intro e; cases e; exact h.bc rfl
  za := by intro e; cases e; exact h.ac rfl
  zb := by intro e; cases e; exact h.bc rfl

set_option maxRecDepth 20000 in
set_option maxHeartbeats 2000000 in
theorem tails_any (n : Nat) (w : World) (hn : n < 18446744073709551616) :
    Calls Try.prog 3 #[.int .u64 n] w fun e w' => e = .returned (.bool true) ∧ Below w.heap.size w w' := by
  have hz := noughts_lt n
  have hL := Lib.hid (tailOf_length n)
  go_enter Try.func3, Try.ntmps3
  go_wp2_with fail
  refine (refTail_any n w hn).mono ?_
  rintro e w1 ⟨⟨Aw, cw, rfl, ow1⟩, hb1⟩
  go_wp2_with fail
  refine (tail_any n w1 hn).mono ?_
  rintro e w2 ⟨⟨Aa, ca, rfl, oa2⟩, hb2⟩
  go_wp2_with fail
  refine (tail_any n w2 hn).mono ?_
  rintro e w3 ⟨⟨Ab, cb, rfl, ob3⟩, hb3⟩
  go_wp2_with fail
  refine (tail_any n w3 hn).mono ?_
  rintro e w4 ⟨⟨Ac, cc, rfl, oc4⟩, hb4⟩
  have ow2 := ow1.below hb2 (fun k hk => (ow1.lt k hk).2)
  have ow3 := ow2.below hb3 (fun k hk => (ow2.lt k hk).2)
  have ow4 := ow3.below hb4 (fun k hk => (ow3.lt k hk).2)
  have oa3 := oa2.below hb3 (fun k hk => (oa2.lt k hk).2)
  have oa4 := oa3.below hb4 (fun k hk => (oa3.lt k hk).2)
  have ob4 := ob3.below hb4 (fun k hk => (ob3.lt k hk).2)
  obtain ⟨gw, rfl⟩ := ow4.head (by omega)
  obtain ⟨ga, rfl⟩ := oa4.head (by omega)
  obtain ⟨gb, rfl⟩ := ob4.head (by omega)
  obtain ⟨gc, rfl⟩ := oc4.head (by omega)
  have s1 := hb1.size
  have s2 := hb2.size
  have s3 := hb3.size
  have l1 := (ow1.lt gw rfl).2
  have l2 := oa2.lt ga rfl
  have l3 := ob3.lt gb rfl
  have l4 := oc4.lt gc rfl
  have F : Four w.heap.size n w4 gw ga gb gc cw ca cb cc (tailOf n) (tailOf n) :=
    ⟨ow4, oa4.base (by omega), ob4.base (by omega), oc4.base (by omega), by omega, by omega, by omega, by omega, by omega, by omega⟩
  have hB := hb1.trans ((hb2.mono (by omega)).trans ((hb3.mono (by omega)).trans (hb4.mono (by omega))))
  clear ow1 ow2 ow3 ow4 oa2 oa3 oa4 ob3 ob4 oc4 hb1 hb2 hb3 hb4 s1 s2 s3 l1 l2 l3 l4
  have rw_ := F.ow.bs (tailOf_length n)
  have ra_ := F.oa.bs (tailOf_length n)
  have rb_ := F.ob.bs (tailOf_length n)
  have rc_ := F.oc.bs (tailOf_length n)
  go_wp2_with fail
  refine (same_eq _ _ _ _ _ (fun j => (((tailOf n)[j]?.getD 0 : Nat) : Int)) _ _ _ (by omega) ra_ rw_).mono ?_
  rintro e w' ⟨rfl, m1, rfl⟩
  go_wp2_with fail
  refine (same_eq _ _ _ _ _ (fun j => (((tailOf n)[j]?.getD 0 : Nat) : Int)) _ _ _ (by omega) (Rd.drewN rb_ _) (Rd.drewN rw_ _)).mono ?_
  rintro e w' ⟨rfl, m2, rfl⟩
  go_wp2_with fail
  refine (same_eq _ _ _ _ _ (fun j => (((tailOf n)[j]?.getD 0 : Nat) : Int)) _ _ _ (by omega) (Rd.drewN rc_ _) (Rd.drewN rw_ _)).mono ?_
  rintro e w' ⟨rfl, m3, rfl⟩
  go_wp2_with fail
  have F5 := F.drewN (m1 + m2 + m3)
  have hB5 := below_drewN hB (m1 + m2 + m3)
  rw [← fillTo_zero 17 n] at F5
  clear F hB rw_ ra_ rb_ rc_
  go_loopw [7] (fun i wr => ∃ k : Nat, k ≤ noughts n + 9 ∧ i = .int .i64 k ∧ Four w.heap.size n wr gw ga gb gc cw ca cb cc (fillTo 17 n k) (fillTo 17 n 0) ∧ Below w.heap.size w wr) (fun i _ => noughts n + 9 - (intOf i).toNat)
  case atStart => exact ⟨0, by omega, rfl, F5, hB5⟩
  case round =>
    clear F5 hB5
    obtain ⟨k, hk, rfl, F, hB⟩ := hrel
    by_cases hlt : k < noughts n + 9
    · have hc := F.oa.cell k (by omega)
      rw [u8s_get _ k (by rw [fillTo_length (by omega)]; omega)] at hc
      have hf := F.oa.frozen k
      have F' := F.setA k (.int .u8 17) _ (fillTo_set (by omega))
      have hB' := hB.trans (F.oa.set_below hB.size k (.int .u8 17))
      clear F hB
      go_wp2_with fail
      go_roundw
      case rel => exact ⟨k + 1, by omega, by go_num, F', hB'⟩
      case measure => simp [intOf]; omega
    · rw [show k = noughts n + 9 by omega, fillTo_all, fillTo_zero, ← fillTo_zero 34 n] at F
      go_wp2_with fail
      go_loopw [8] (fun i wr => ∃ k : Nat, k ≤ noughts n + 9 ∧ i = .int .i64 k ∧ Four w.heap.size n wr gw ga gb gc cw ca cb cc (List.replicate (noughts n + 9) 17) (fillTo 34 n k) ∧ Below w.heap.size w wr) (fun i _ => noughts n + 9 - (intOf i).toNat)
      case atStart => exact ⟨0, by omega, rfl, F, hB⟩
      case round =>
        clear F hB hk hlt
        obtain ⟨k, hk, rfl, F, hB⟩ := hrel
        by_cases hlt : k < noughts n + 9
        · have hc := F.ob.cell k (by omega)
          rw [u8s_get _ k (by rw [fillTo_length (by omega)]; omega)] at hc
          have hf := F.ob.frozen k
          have F' := F.setB k (.int .u8 34) _ (fillTo_set (by omega))
          have hB' := hB.trans (F.ob.set_below hB.size k (.int .u8 34))
          clear F hB
          go_wp2_with fail
          go_roundw
          case rel => exact ⟨k + 1, by omega, by go_num, F', hB'⟩
          case measure => simp [intOf]; omega
        · rw [show k = noughts n + 9 by omega, fillTo_all] at F
          have G := F.trio
          clear F
          go_wp2_with fail
          go_loopw [9, 10, 11, 12] (fun x y z i wr => ∃ (k : Nat) (X Y Z : Option Addr) (cx cy cz : Nat), k ≤ 80 ∧ i = .int .i64 k ∧ x = .slice X ((noughts n + 9) + k) cx ∧ y = .slice Y ((noughts n + 9) + k) cy ∧ z = .slice Z ((noughts n + 9) + k) cz ∧ Trio w.heap.size n wr gw ga gb gc k k k X Y Z cx cy cz ∧ Below w.heap.size w wr) (fun _ _ _ i _ => 80 - (intOf i).toNat)
          case atStart => exact ⟨0, _, _, _, _, _, _, by omega, rfl, rfl, rfl, rfl, G, hB⟩
          case round =>
            clear G hB hk hlt
            obtain ⟨k, X, Y, Z, cx, cy, cz, hk, rfl, rfl, rfl, rfl, G, hB⟩ := hrel
            by_cases hlt : k < 80
            · have ox := G.ox
              go_wp2_with (first
                | (at_builtin; refine wpList_app1 elB _ #[_] rfl rfl _ _ rfl rfl ox rfl (by intro u hu; simp at hu; subst hu; rfl) (by unfold maxLen; omega) (by omega) hB.size (noughts n + 9 + k + 1) rfl _ rfl ?_; intro X' cx' w6 ox' hx hbx; have G2 := G.stepX hx ox'; have hB2 := hB.trans hbx; have oy := G2.oy; clear G hB ox ox' hx hbx)
                | (at_builtin; refine wpList_app1 elB _ #[_] rfl rfl _ _ rfl rfl oy rfl (by intro u hu; simp at hu; subst hu; rfl) (by unfold maxLen; omega) (by omega) hB2.size (noughts n + 9 + k + 1) rfl _ rfl ?_; intro Y' cy' w7 oy' hy hby; have G3 := G2.stepY hy oy'; have hB3 := hB2.trans hby; have oz := G3.oz; clear G2 hB2 oy oy' hy hby)
                | (at_builtin; refine wpList_app1 elB _ #[_] rfl rfl _ _ rfl rfl oz rfl (by intro u hu; simp at hu; subst hu; rfl) (by unfold maxLen; omega) (by omega) hB3.size (noughts n + 9 + k + 1) rfl _ rfl ?_; intro Z' cz' w8 oz' hz8 hbz; have G4 := G3.stepZ hz8 oz'; have hB4 := hB3.trans hbz; clear G3 hB3 oz oz' hz8 hbz))
              go_roundw
              case rel => exact ⟨k + 1, _, _, _, _, _, _, by omega, by go_num, rfl, rfl, rfl, G4, hB4⟩
              case measure => simp [intOf]; omega
            · obtain rfl : k = 80 := by omega
              go_wp2_with fail
              refine (tail_any n _ hn).mono ?_
              rintro e w9 ⟨⟨Ad, cd, rfl, od⟩, hb9⟩
              have rd_ := od.bs (tailOf_length n)
              have rw_ := G.rw.below hb9
              have ra_ := G.ra.below hb9
              have rb_ := G.rb.below hb9
              have rc_ := G.rc.below hb9
              have rx_ := ((G.ox.bs (by simp)).congr (g' := fun _ => .int .u8 17) fun j hj => by simp [hj]).below hb9
              have ry_ := ((G.oy.bs (by simp)).congr (g' := fun _ => .int .u8 34) fun j hj => by simp [hj]).below hb9
              have hBB := hB.trans (hb9.mono hB.size)
              clear G hB hb9 od
              go_wp2_with fail
              refine (all_eq _ _ _ 17 _ _ (by omega) rx_).mono ?_
              rintro e w' ⟨rfl, rfl⟩
              go_wp2_with fail
              refine (all_eq _ _ _ 34 _ _ (by omega) ry_).mono ?_
              rintro e w' ⟨rfl, rfl⟩
              go_wp2_with fail
              refine (all_eq _ _ _ 17 _ _ (by omega) ra_).mono ?_
              rintro e w' ⟨rfl, rfl⟩
              go_wp2_with fail
              refine (all_eq _ _ _ 34 _ _ (by omega) rb_).mono ?_
              rintro e w' ⟨rfl, rfl⟩
              go_wp2_with fail
              refine (same_eq _ _ _ _ _ (fun j => (((tailOf n)[j]?.getD 0 : Nat) : Int)) _ _ _ (by omega) rc_ rw_).mono ?_
              rintro e w' ⟨rfl, m4, rfl⟩
              go_wp2_with fail
              refine (same_eq _ _ _ _ _ (fun j => (((tailOf n)[j]?.getD 0 : Nat) : Int)) _ _ _ (by omega) (Rd.drewN rd_ _) (Rd.drewN rw_ _)).mono ?_
              rintro e w' ⟨rfl, m5, rfl⟩
              go_wp2_with fail
              go_ret
              exact ⟨ret_bool (by simp), below_drewN hBB _⟩

set_option maxRecDepth 100000 in
open Go.ChangeShapes Go.WideShapes in
theorem shaTails_calls {H : Type} {enc : TypeId × Value → H} (W : World) (base : Nat) (v0 : Value) (d0 : DataW H) (p0 : List MemPlace)
    (o0 : Value.okWide Try.prog W .any base 22 v0) (h0 : DataW.Trod enc Try.prog W 0 (fun _ => true) true 22 v0 d0 p0)
    (_hsz : (DataW.weightsEach Try.prog [22] [d0]).all (· ≤ reachBytes) = true) :
    Calls Try.prog 3 #[v0] W fun e W' => e = .returned (.bool true) ∧ Below W.heap.size W W' := by
  obtain ⟨x, rfl, _, _, hw⟩ := open_int Try.underlying22 o0 h0
  have h1 : 0 ≤ x ∧ x < 18446744073709551616 := by
    simp [Lit.wf, IntKind.min, IntKind.max, IntKind.signed, IntKind.bits] at hw
    omega
  obtain ⟨n, rfl⟩ : ∃ n : Nat, x = n := ⟨x.toNat, by omega⟩
  exact tails_any n W (by omega)
end Go.Proofs.Ytfibfaablpoilaa

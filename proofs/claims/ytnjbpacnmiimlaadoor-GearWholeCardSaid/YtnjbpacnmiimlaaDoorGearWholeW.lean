/- GearWhole: the law's walk. -/
import Derived.Test.YtnjbpacnmiimlaaDoorGearEnd
import Derived.Test.YtnjbpacnmiimlaaDoorGearK
namespace Go.Proofs.YtnjbpacnmiimlaaDoor
open Go.RowKit

/-- The bytes of the first k lists. -/
def flatL (zs : List Pt) (k : Nat) : List Nat := ((zs.take k).map Pt.l).flatten
theorem flatL_zero (zs : List Pt) : flatL zs 0 = [] := rfl
theorem flatL_succ {zs : List Pt} {k : Nat} (h : k < zs.length) : flatL zs (k + 1) = flatL zs k ++ (zs[k]?.getD Pt.none_).l := by
  unfold flatL
  rw [List.take_add_one, List.getElem?_eq_getElem h]
  simp only [Option.toList_some, List.map_append, List.flatten_append, List.map_cons, List.map_nil, List.flatten_cons, List.flatten_nil, List.append_nil, Option.getD_some]
theorem flatL_mono (zs : List Pt) {i k : Nat} (h : i ≤ k) : (flatL zs i).length ≤ (flatL zs k).length := by
  have e : zs.take k = zs.take i ++ (zs.take k).drop i := by
    conv => lhs; rw [← List.take_append_drop i (zs.take k)]
    rw [List.take_take, Nat.min_eq_left h]
  unfold flatL
  rw [e, List.map_append, List.flatten_append, List.length_append]
  omega
theorem flatL_bytes {zs : List Pt} (h : ∀ i : Nat, ∀ b ∈ (zs[i]?.getD Pt.none_).l, b < 256) : ∀ k : Nat, ∀ b ∈ flatL zs k, b < 256
  | 0, b, hb => by cases hb
  | k + 1, b, hb => by
    by_cases hk : k < zs.length
    · rw [flatL_succ hk] at hb
      rcases List.mem_append.1 hb with hb | hb
      · exact flatL_bytes h k b hb
      · exact h k b hb
    · have e : flatL zs (k + 1) = flatL zs k := by
        unfold flatL
        rw [List.take_of_length_le (by omega), List.take_of_length_le (by omega)]
      rw [e] at hb
      exact flatL_bytes h k b hb
theorem puts_len {a m x : Int} (l : List Nat) (s : List (List Nat) × List Nat) : (Gear.puts a m x s l).1.length ≤ s.1.length + l.length ∧ (Gear.puts a m x s l).2.length ≤ s.2.length + l.length := by
  induction l generalizing s with
  | nil => simp [Gear.puts]
  | cons b t ih =>
    rw [Gear.puts]
    have h := ih (Gear.put1 a m x s b)
    by_cases he : Gear.ends a m x (s.2.length + 1) (Gear.roll (Gear.rolls s.2) b) = true
    · rw [Gear.put1_hit he] at h ⊢
      simp only [List.length_append, List.length_cons, List.length_nil] at h ⊢
      omega
    · rw [Gear.put1_miss he] at h ⊢
      simp only [List.length_append, List.length_cons, List.length_nil] at h ⊢
      omega
theorem range_get {xs : List Value} {n : Nat} (h : xs.length = n) : (List.range (n * 1)).map (fun j => xs[j]?.getD undef) = xs := by
  subst h
  apply List.ext_getElem
  · simp
  · intro j h1 h2
    simp [h2]

theorem slice_mid (A : Option Addr) (L c lo hi : Nat) (H : Int) (hH : H = (hi : Int)) (h1 : lo ≤ hi) (h2 : hi ≤ c) (W : World) :
    (Instr.slice 24 (.slice A L c) (some (.int .i64 (lo : Int))) (some (.int .i64 H)) none).run Tryd.prog W = .ok (.slice (cutA A lo c) (hi - lo) (c - lo)) W := by
  subst hH
  have hs : (sizeOf (Tryd.prog.elem 24)).run Tryd.prog W = .ok 1 W := by kernel_rfl
  rw [run_slice_lh W 24 _ L c (by rw [Tryd.underlying24]; kernel_rfl) .i64 .i64 (lo : Int) (hi : Int) (by omega) (by omega) (by omega), hs]
  simp only [Result.andThen, sliced, Int.toNat_natCast, cutA, Nat.mul_one]

set_option maxRecDepth 20000 in
set_option maxHeartbeats 8000000 in
theorem whole_any (a m x : Int) (A0 : Option Addr) (n0 k0 : Nat) (zP : List Pt) (AP : Option Addr) (P cP : Nat) (w : World) (hP : zP.length = P) (rP : Rd w w.heap.size AP P (fun j => (zP[j]?.getD Pt.none_).v))
    (hb : ∀ i : Nat, Byt w w.heap.size (zP[i]?.getD Pt.none_).A (zP[i]?.getD Pt.none_).l) (h256 : ∀ i : Nat, ∀ b ∈ (zP[i]?.getD Pt.none_).l, b < 256) (hlen : ∀ i : Nat, (zP[i]?.getD Pt.none_).l.length ≤ 140737488351232) (hPb : P ≤ 5864062014635) (hT : Tz w) :
    Calls Tryd.prog 6 #[.agg #[.int .i64 a, .int .i64 m, .int .i64 x, .slice A0 n0 k0], .slice AP P cP] w fun e w' => e = .returned (.bool true) ∧ Below w.heap.size w w' := by
  have hP' := Lib.hid hP
  have rP' := Lib.hid rP
  have hb' := Lib.hid hb
  have h256' := Lib.hid h256
  have hlen' := Lib.hid hlen
  have hT' := Lib.hid hT
  have hB0 := Lib.hid ((Below.refl w.heap.size w).alloc (Nat.le_refl _) (.cells #[.int .i64 a, .int .i64 m, .int .i64 x, .slice A0 n0 k0] 26))
  have bx0 := Lib.hid (Box4.new w 26 a m x A0 n0 k0)
  clear hP rP hb h256 hlen hT
  go_enter Tryd.func6, Tryd.ntmps6
  go_wp2_with fail
  refine (lives_any _ (hT'.out.below hB0.out)).mono ?_
  rintro e w1 ⟨rfl, hb1⟩
  have hB1 := Lib.hid (hB0.out.trans (hb1.mono (by simp)))
  have bx1 := Lib.hid (bx0.out.keep hb1 (by simp))
  have hz1 : w.heap.size + 1 ≤ w1.heap.size := by have := hb1.size; simpa using this
  clear hb1 bx0 hB0
  go_wp2_with fail
  go_loopw [5, 6] (fun dv iv wr => ∃ (k L : Nat) (Ad : Option Addr) (cd : Nat), k ≤ P ∧ L ≤ 1048576 ∧ iv = .int .i64 (k : Int) ∧ dv = .slice Ad L cd ∧ Hid (Own wr (w.heap.size + 1) 5 1 Ad L cd (u8s (flatL zP k))) ∧ Hid (Below (w.heap.size + 1) w1 wr)) (fun _ iv _ => P - (intOf iv).toNat)
  case atStart => exact ⟨0, 0, none, 0, by omega, by omega, rfl, rfl, Lib.hid (ownB_nil _ _ _), Lib.hid (Below.refl _ _)⟩
  case round =>
    obtain ⟨k, L, Ad, cd, hk, hL, rfl, rfl, hown, hbel⟩ := hrel
    have hzr : w.heap.size + 1 ≤ wr.heap.size := by have := hbel.out.size; omega
    have hBr := Lib.hid (hB1.out.trans (hbel.out.mono (by omega)))
    by_cases hlt : k < P
    · obtain ⟨bp, op, rfl, _, qp⟩ := (rP'.out.below hBr.out).get (k := k) hlt
      have hfs := flatL_succ (zs := zP) (k := k) (by rw [hP'.out]; exact hlt)
      have hzb := (hb'.out k).below hBr.out
      have hzl := hlen'.out k
      generalize zP[k]?.getD Pt.none_ = z at qp hfs hzb hzl
      obtain ⟨Az, lz, cz⟩ := z
      simp only [Pt.v] at qp
      simp only at hfs hzb hzl
      obtain ⟨nz, hnz⟩ : ∃ n, Hid (lz.length = n) := ⟨_, Lib.hid rfl⟩
      rw [hnz.out] at qp hzl
      have hfs' := Lib.hid hfs
      have hzb' := Lib.hid hzb
      clear hfs hzb
      by_cases hbig : 1048576 - (L : Int) < (nz : Int)
      · go_wp2_with fail
        go_ret
        exact ⟨rfl, hBr.out⟩
      · have hbig' : (nz : Int) ≤ 1048576 - (L : Int) := by omega
        clear hbig
        go_wp2_with (at_builtin; refine wpList_appB elB _ rfl (.tmp 37) (.tmp 41) rfl rfl hown.out rfl hnz.out hzb'.out (by omega) hzr (L + nz) rfl ?_; intro A2 c2 w2 o2 _ hb2; rw [← hfs'.out] at o2)
        go_roundw
        case rel => exact ⟨k + 1, L + nz, A2, c2, by omega, by omega, by go_num, rfl, Lib.hid o2, Lib.hid (hbel.out.trans hb2)⟩
        case measure => simp [intOf]; omega
    · obtain rfl : P = k := by omega
      clear hlt hk
      have hLl := Lib.hid (show (flatL zP P).length = L by have := hown.out.len; rw [u8s_length] at this; omega)
      have hD256 := Lib.hid (flatL_bytes h256'.out P)
      have hle := hown.out.le
      obtain ⟨q0, q1, q2, q3⟩ := bx1.out.keep hbel.out (Nat.lt_succ_self _)
      have bxr := Lib.hid (bx1.out.keep hbel.out (Nat.lt_succ_self _))
      have hcut := Lib.hid (cut_any a m x (flatL zP P) Ad cd L wr hLl.out hD256.out (by omega) hle.1 (hown.out.byt) (hT'.out.below hBr.out))
      clear hbel bx1 hB1
      by_cases ok : okRule a m x
      · have ck := chk_ok ok
        have ok' := Lib.hid ok
        obtain ⟨ls, hls⟩ : ∃ ls, Hid (∀ _ : Unit, Gear.cut a m x (flatL zP P) = ls) := ⟨_, Lib.hid fun _ => rfl⟩
        obtain ⟨N, hN⟩ : ∃ n, Hid (∀ _ : Unit, ls.length = n) := ⟨_, Lib.hid fun _ => rfl⟩
        have hNb : N ≤ 1048576 := by
          have := Gear.cut_length a m x (flatL zP P)
          rw [hls.out (), hN.out (), hLl.out] at this
          omega
        simp only [hls.out (), hN.out (), ck] at hcut
        clear ok
        go_wp2_with fail
        refine hcut.out.mono ?_
        rintro e w2 ⟨⟨Al, cl, rfl, ol⟩, hb2⟩
        have hB2 := Lib.hid (hBr.out.trans (hb2.mono hBr.out.size))
        have bx2 := Lib.hid (bxr.out.keep hb2 (by omega))
        have od2 := Lib.hid (hown.out.below hb2 (fun k hk => (hown.out.lt k hk).2))
        have ol2 := Lib.hid ol
        have hz2 : wr.heap.size ≤ w2.heap.size := hb2.size
        clear q0 q1 q2 q3 hb2 bxr hown ol hBr hcut
        obtain ⟨q0, q1, q2, q3⟩ := bx2.out
        go_wp2_with fail
        refine (new_any a m x w2 ok'.out (hT'.out.below hB2.out)).mono ?_
        rintro e w3 ⟨⟨bc, S, rfl, hcu⟩, hb3⟩
        have hB3 := Lib.hid (hB2.out.trans (hb3.mono hB2.out.size))
        have bx3 := Lib.hid (bx2.out.keep hb3 (by omega))
        have od3 := Lib.hid (od2.out.below hb3 (fun k hk => (od2.out.lt k hk).2))
        have ol3 := Lib.hid (ol2.out.below hb3 (fun k hk => (ol2.out.lt k hk).2))
        have ulA := Lib.hid od2.out.lt
        have ull := Lib.hid ol2.out.lt
        have hcu3 := Lib.hid hcu
        have hz3 : w2.heap.size ≤ w3.heap.size := hb3.size
        clear q0 q1 q2 q3 hb3 bx2 od2 ol2 hcu hB2
        obtain ⟨q0, q1, q2, q3⟩ := bx3.out
        go_wp2_with fail
        refine (check_any a m x w3).mono ?_
        rw [ck]
        rintro e w4 ⟨rfl, hb4⟩
        have hB4 := Lib.hid (hB3.out.trans (hb4.mono hB3.out.size))
        have bx4 := Lib.hid (bx3.out.keep hb4 (by omega))
        have od4 := Lib.hid (od3.out.below hb4 (fun k hk => (od3.out.lt k hk).2))
        have ol4 := Lib.hid (ol3.out.below hb4 (fun k hk => (ol3.out.lt k hk).2))
        have hcu4 := Lib.hid (hcu3.out.below hb4)
        have hz4 : w3.heap.size ≤ w4.heap.size := hb4.size
        clear q0 q1 q2 q3 hb4 bx3 od3 ol3 hcu3 hB3
        obtain ⟨q0, q1, q2, q3⟩ := bx4.out
        have rl := Lib.hid (ol4.out.nts)
        have hbd := Lib.hid fun i y (h : ls[i]? = some y) => Gear.cut_bound ok'.out (flatL zP P) i y (by rw [hls.out ()]; exact h)
        have hsum : Hid (∀ _ : Unit, ls.sum = L) := Lib.hid fun _ => by rw [← hls.out (), Gear.cut_sum ok'.out _ _ (Nat.le_refl _), hLl.out]
        go_wp2_with fail
        go_loopw [11, 12] (fun av iv wr => ∃ i s q : Nat, i ≤ N ∧ iv = .int .i64 (i : Int) ∧ av = .int .i64 (s : Int) ∧ s ≤ 1048576 ∧ wr = w4.drewN q ∧ Hid (s = (ls.take i).sum)) (fun _ iv _ => N - (intOf iv).toNat)
        case atStart => exact ⟨0, 0, 0, by omega, rfl, rfl, by omega, rfl, Lib.hid rfl⟩
        case round =>
          obtain ⟨i, s, q, hi, rfl, rfl, hs, rfl, hst⟩ := hrel
          by_cases hlt : i < N
          · have hil : i < ls.length := by rw [hN.out ()]; exact hlt
            obtain ⟨bl, ofl, hAl, _, ql⟩ := rl.out.get (k := i) hil
            have hgs := get_some hil
            have hsn := Gear.sum_take_snoc hgs
            have hsl := sum_take_le ls (i + 1)
            rw [hsum.out ()] at hsl
            obtain ⟨y1, y2, y3⟩ := hbd.out i _ hgs
            rw [hls.out (), hN.out ()] at y3
            generalize ls[i]?.getD 0 = y at ql hgs hsn y1 y2 y3
            have hnext := Lib.hid (show s + y = (ls.take (i + 1)).sum by rw [hsn, hst.out])
            have hsy : s + y ≤ 1048576 := by rw [hnext.out]; omega
            have y1' : (1 : Int) ≤ (y : Int) := by omega
            have e1 : decide ((y : Int) < 1) = false := decide_eq_false (by omega)
            have ew : IntKind.i64.wrap ((N : Int) - 1) = (N : Int) - 1 := by rw [IntKind.wrap_i64]; omega
            have e2 : decide (x < (y : Int)) = false := decide_eq_false (by omega)
            subst hAl
            clear hil hgs hsn hsl
            by_cases hl1 : i + 1 < N
            · have y3' := y3 hl1
              have e3 : decide ((i : Int) < (N : Int) - 1) = true := decide_eq_true (by omega)
              have e4 : decide ((y : Int) < a) = false := decide_eq_false (by omega)
              clear y3
              go_wp2_with fail
              go_quiet (fail)
              go_wp2_with fail
              go_roundw
              case rel => exact ⟨i + 1, s + y, _, by omega, by go_num, by go_num, hsy, rfl, hnext⟩
              case measure => simp [intOf]; omega
            · have e3 : decide ((i : Int) < (N : Int) - 1) = false := decide_eq_false (by omega)
              have e5 : (N : Int) - 1 ≤ (i : Int) := by omega
              clear y3
              go_wp2_with fail
              go_quiet (fail)
              go_wp2_with fail
              go_roundw
              case rel => exact ⟨i + 1, s + y, _, by omega, by go_num, by go_num, hsy, rfl, hnext⟩
              case measure => simp [intOf]; omega
          · obtain rfl : N = i := by omega
            have hsL : L = s := by
              rw [hst.out, ← hN.out (), List.take_length, hsum.out ()]
            obtain rfl : L = s := hsL
            clear hlt hi hst hbd q0 q1 q2 q3
            have hB5 := Lib.hid (below_drewN hB4.out q)
            have od5 := Lib.hid (od4.out.drewN q)
            have ol5 := Lib.hid (ol4.out.drewN q)
            have hcu5 := Lib.hid (hcu4.out.below (below_drewN (Below.refl _ _) q))
            have hz5 : w2.heap.size ≤ (w4.drewN q).heap.size := by show w2.heap.size ≤ w4.heap.size; omega
            clear hB4 od4 ol4 rl hcu4 bx4
            generalize w4.drewN q = w5 at hB5 od5 ol5 hcu5 hz5 ⊢
            have hst0 : WSt w5 w2.heap.size (Dirty bc none S) bc a m x w5 none 0 0 [] S 0 (Gear.rolls []) none 0 [] :=
              ⟨hcu5.out.toX, Own.nil _ _ _ _, (fun k hk => by cases hk), (fun z hz => by cases hz), Fr.refl _ _, fun _ _ e => e⟩
            have hst0' := Lib.hid hst0
            have hD0 := Lib.hid hcu5.out.lt
            clear hst0 hcu5
            go_wp2_with fail
            go_loopw [13, 14] (fun gv iv wr => ∃ (k : Nat) (A1 : Option Addr) (n1 c1 : Nat) (h1 : List Nat) (S1 : Nat) (Ag : Option Addr) (j cg : Nat) (gz : List Pt), k ≤ P ∧ iv = .int .i64 (k : Int) ∧ gv = .slice Ag j cg ∧ Hid (n1 ≤ (flatL zP k).length ∧ j ≤ (flatL zP k).length) ∧ Hid (gz.length = j) ∧ Hid (WSt w5 w2.heap.size (Dirty bc none S) bc a m x wr A1 n1 c1 h1 S1 n1 (Gear.rolls h1) Ag cg gz) ∧ Hid (∀ _ : Unit, (Gear.scan a m x 0 0 h1).2 = false) ∧ Hid (∀ _ : Unit, Gear.puts a m x ([], []) (flatL zP k) = (gz.map Pt.l, h1))) (fun _ iv _ => P - (intOf iv).toNat)
            case atStart => exact ⟨0, none, 0, 0, [], S, none, 0, 0, [], by omega, rfl, rfl, Lib.hid ⟨by omega, by omega⟩, Lib.hid rfl, hst0', Lib.hid fun _ => rfl, Lib.hid fun _ => rfl⟩
            case round =>
              clear hst0'
              obtain ⟨k, A1, n1, c1, h1, S1, Ag, j, cg, gz, hk, rfl, rfl, hbnd, hgl, hst, hsc, hpu⟩ := hrel
              have hBel : Hid (Below w2.heap.size w5 wr) := Lib.hid (hst.out.fr.below hz5 (fun k hk e => by have := (hD0.out k e).1; omega))
              have hBw := Lib.hid (hB5.out.trans (hBel.out.mono (by omega)))
              by_cases hlt : k < P
              · obtain ⟨bp, op, rfl, _, qp⟩ := (rP'.out.below hBw.out).get (k := k) hlt
                have hfs := flatL_succ (zs := zP) (k := k) (by rw [hP'.out]; exact hlt)
                have hmono := flatL_mono zP (show k + 1 ≤ P by omega)
                rw [hLl.out] at hmono
                have hzb0 := hb'.out k
                have hz256 := h256'.out k
                generalize zP[k]?.getD Pt.none_ = z at qp hfs hzb0 hz256
                obtain ⟨Az, lz, cz⟩ := z
                simp only [Pt.v] at qp
                simp only at hfs hzb0 hz256
                obtain ⟨nz, hnz⟩ : ∃ n, Hid (lz.length = n) := ⟨_, Lib.hid rfl⟩
                rw [hnz.out] at qp
                have hfl : (flatL zP (k + 1)).length = (flatL zP k).length + nz := by rw [hfs, List.length_append, hnz.out]
                have hb1 := hbnd.out.1
                have hb2 := hbnd.out.2
                have hn1nz : n1 + nz ≤ 1048576 := by omega
                have hwr := Lib.hid (write_any w2.heap.size bc a m x A1 n1 c1 h1 S1 lz Az cz nz wr (hst.out.cu.toCutr (hsc.out ())) hnz.out hz256 (by omega) ((hzb0.below hBw.out).mono hBw.out.size)
                  (fun hpos k hk e => by
                    obtain ⟨b, off, hA, hbl, _⟩ := hzb0 (by rw [hnz.out]; exact hpos)
                    rw [hA] at hk
                    cases hk
                    have := (hst.out.cu.lt b e).1
                    omega)
                  (hT'.out.below hBw.out) (fun k hk e => by
                    have h1 := (hst.out.cu.lt k hk).1
                    have h2 := World.block_lt_of_cell? _ _ (hT'.out 0 (by omega))
                    simp at h2
                    omega))
                have hpl := puts_len (a := a) (m := m) (x := x) lz ([], h1)
                have hfs' := Lib.hid hfs
                clear hfs hzb0 hz256
                go_wp2_with fail
                refine hwr.out.mono ?_
                rintro e w6 ⟨Ao, co, zs, A2, n2, c2, S2, rfl, hzs, hn2, hsc2, hst2⟩
                obtain ⟨jz, hjz⟩ : ∃ j, Hid (zs.length = j) := ⟨_, Lib.hid rfl⟩
                have hjn : jz ≤ nz := by
                  have h1 := congrArg List.length hzs
                  rw [List.length_map, hjz.out] at h1
                  have h2 := hpl.1
                  rw [hnz.out] at h2
                  simp at h2
                  omega
                have hpuz : Hid (∀ _ : Unit, Gear.puts a m x ([], []) (flatL zP (k + 1)) = ((gz ++ zs).map Pt.l, (Gear.puts a m x ([], h1) lz).2)) := Lib.hid fun _ => by
                  rw [hfs'.out, Gear.puts_app, hpu.out (), Gear.puts_front, ← hzs, List.map_append]
                have hout6 := Lib.hid (show Own w6 w5.heap.size 24 1 Ag j cg (gz.map Pt.v) by
                  have := (hst.out.move hst2.fr (fun _ _ e => e) hst2.cu hst2.dirt).out
                  rwa [hgl.out] at this)
                have hrd6 := Lib.hid (show Rd w6 w6.heap.size Ao (jz * 1) (fun i => (zs.map Pt.v)[i]?.getD undef) by
                  have := hst2.out.rd
                  rwa [hjz.out] at this)
                have hone := Lib.hid (show ∀ i, i < jz * 1 → ((zs.map Pt.v)[i]?.getD undef).oneCell' = true from fun i hi => by
                  rw [List.getElem?_map, List.getElem?_eq_getElem (by rw [hjz.out]; omega)]
                  rfl)
                have hz6 : w5.heap.size ≤ w6.heap.size := Nat.le_trans hst.out.size hst2.fr.size
                have hscz := Lib.hid fun _ : Unit => hsc2
                have hst2' := Lib.hid hst2
                have hjc : zs.length = jz := hjz.out
                rw [hjc]
                clear hst2 hsc2 hpl hwr hzs hjc
                go_wp2_with (at_builtin; refine wpList_app elS w6 rfl (.tmp 144) (.tmp 145) rfl rfl hout6.out rfl hrd6.out hone.out (by unfold maxLen; omega) (by omega) hz6 (j + jz) rfl (gz.map Pt.v ++ zs.map Pt.v) (by rw [range_get (by rw [List.length_map, hjz.out])]) ?_; intro Ag2 cg2 w7 own7 at7 _)
                have hst7 := hst.out.joins hst2'.out (by rw [hgl.out, hjz.out]; exact own7) at7
                go_roundw
                case rel => exact ⟨k + 1, A2, n2, c2, _, S2, Ag2, j + jz, cg2, gz ++ zs, by omega, by go_num, rfl, Lib.hid ⟨by omega, by omega⟩, Lib.hid (by rw [List.length_append, hgl.out, hjz.out]), Lib.hid hst7, hscz, hpuz⟩
                case measure => simp [intOf]; omega
              · obtain rfl : P = k := by omega
                have hb1 := hbnd.out.1
                have hb2 := hbnd.out.2
                rw [hLl.out] at hb1 hb2
                have hend := Lib.hid (end_any w2.heap.size bc a m x A1 n1 c1 h1 S1 wr (hst.out.cu.toCutr (hsc.out ())) (by omega))
                have hcl := Lib.hid hst.out.cu.len
                have hgot := Lib.hid hst.out.got
                have hflat := Lib.hid (show (gz.map Pt.l).flatten ++ h1 = flatL zP P by
                  have := Gear.puts_flat (a := a) (m := m) (x := x) (flatL zP P) ([], [])
                  rw [hpu.out ()] at this
                  simpa using this)
                have hlsP := Lib.hid (show ls = (gz.map Pt.l ++ Gear.last h1).map List.length by
                  have := Gear.cut_puts ok'.out (flatL zP P) [] rfl
                  rw [List.nil_append, hls.out (), hpu.out ()] at this
                  exact this)
                clear hlt hk
                go_wp2_with fail
                refine hend.out.mono ?_
                rintro e w6 ⟨Ap, cp, rfl, op, hfr, -⟩
                have hBe : Hid (Below w2.heap.size wr w6) := Lib.hid (hfr.below (by have := hst.out.size; omega) (fun k hk e => by have := hst.out.cu.bB; omega))
                have hgot6 := Lib.hid (hgot.out.fr hfr (fun k hk e => hst.out.outD k hk (.inl e)) (fun z hz k hk e => ((hst.out.pcs z hz).2 k hk).2.2.1 (.inl e)))
                have op' := Lib.hid op
                have hz6 : w5.heap.size ≤ w6.heap.size := Nat.le_trans hst.out.size hfr.size
                clear op hfr hend hst
                by_cases h0 : n1 = 0
                · have hh1 : h1 = [] := List.length_eq_zero_iff.1 (by rw [hcl.out]; exact h0)
                  subst hh1
                  subst h0
                  have hlsF : Hid (∀ _ : Unit, ls = (gz.map Pt.l).map List.length ∧ (gz.map Pt.l).flatten = flatL zP P) := Lib.hid fun _ => ⟨by have := hlsP.out; rw [this]; simp [Gear.last], by have := hflat.out; simpa using this⟩
                  have hGl : Hid (gz.length = j) := Lib.hid (hgl.out)
                  have hNj : j = N := by
                    have h1 := congrArg List.length (hlsF.out ()).1
                    simp only [List.length_map] at h1
                    rw [← hGl.out, ← h1, hN.out ()]
                  have hBf := Lib.hid (hBel.out.trans hBe.out)
                  have odf := Lib.hid (od5.out.below hBf.out (fun k hk => (ulA.out k hk).2))
                  have rlf := Lib.hid (ol5.out.below hBf.out (fun k hk => (ull.out k hk).2)).nts
                  have hBwf := Lib.hid (hB5.out.trans (hBf.out.mono (by omega)))
                  have hG := hgot6
                  clear hBf hBe hBel od5 ol5 hB5
                  go_wp2_with fail
                  go_loopw [11, 19] (fun av iv wr => ∃ i s q : Nat, i ≤ N ∧ iv = .int .i64 (i : Int) ∧ av = .int .i64 (s : Int) ∧ s ≤ 1048576 ∧ wr = w6.drewN q ∧ Hid (s = (ls.take i).sum)) (fun _ iv _ => N - (intOf iv).toNat)
                  case atStart => exact ⟨0, 0, 0, by omega, rfl, rfl, by omega, rfl, Lib.hid rfl⟩
                  case round =>
                    obtain ⟨i, s, q, hi, rfl, rfl, hs, rfl, hst⟩ := hrel
                    by_cases hlt : i < N
                    · have hil : i < ls.length := by rw [hN.out ()]; exact hlt
                      obtain ⟨bl, ofl, hAl, _, ql⟩ := rlf.out.get (k := i) hil
                      have hgs := get_some hil
                      have hsn := Gear.sum_take_snoc hgs
                      have hsl := sum_take_le ls (i + 1)
                      rw [hsum.out ()] at hsl
                      have hiG : i < gz.length := by rw [hGl.out, hNj]; exact hlt
                      obtain ⟨gg, hgg⟩ := hG.out.out.head (by omega)
                      have qg := hG.out.out
                      rw [hgg] at qg
                      have qg2 := qg.cell i (by omega)
                      rw [List.getElem?_map, List.getElem?_eq_getElem hiG] at qg2
                      obtain ⟨pb, -⟩ := hG.out.pcs _ (List.getElem_mem hiG)
                      have hpl : (gz.map Pt.l)[i]? = some (gz[i]).l := by rw [List.getElem?_map, List.getElem?_eq_getElem hiG]; rfl
                      have hfg := Gear.flat_get _ i _ hpl
                      have hyl0 : ls[i]? = some (gz[i]).l.length := by rw [(hlsF.out ()).1, List.getElem?_map, hpl]; rfl
                      rw [hgs] at hyl0
                      have hyl := Option.some.inj hyl0
                      clear hyl0
                      rw [← (hlsF.out ()).1, ← hst.out, (hlsF.out ()).2] at hfg
                      generalize (gz)[i] = z at qg2 pb hfg hyl hpl
                      obtain ⟨Az, lz, cz⟩ := z
                      simp only [Pt.v, Option.map_some] at qg2
                      simp only at pb hfg hyl
                      rw [← hyl] at qg2 hfg
                      generalize ls[i]?.getD 0 = y at ql hgs hsn qg2 hfg hyl
                      have hnext := Lib.hid (show s + y = (ls.take (i + 1)).sum by rw [hsn, hst.out])
                      have hsy : s + y ≤ L := by rw [hnext.out]; omega
                      have hsb : Hid (∀ W, Byt W W.heap.size Az lz → Byt W W.heap.size (cutA Ad s cd) lz → Calls Tryd.prog 20 #[.slice Az y cz, .slice (cutA Ad s cd) y (cd - s)] W fun e w' => e = .returned (.bool true) ∧ ∃ k, w' = W.drewN k) := Lib.hid fun W h1 h2 => by
                        have h1' : Bs W W.heap.size Az y (fun j => ((lz[j]?.getD 0 : Nat) : Int)) := by rw [hyl]; exact h1
                        have h2' : Bs W W.heap.size (cutA Ad s cd) y (fun j => ((lz[j]?.getD 0 : Nat) : Int)) := by rw [hyl]; exact h2
                        exact same_eq Az (cutA Ad s cd) cz (cd - s) y _ _ _ W (by omega) h1' h2'
                      have hdat : Hid (Byt w6 w6.heap.size (cutA Ad s cd) lz) := Lib.hid (by
                        have h3 := odf.out.byt.cut (k := s) (cap := cd) (by rw [hLl.out]; omega) (by rw [hLl.out]; exact hle.1)
                        have h4 := h3.take y (by rw [List.length_drop, hLl.out]; omega)
                        rw [hfg] at h4
                        exact h4)
                      have hsl2 := fun W => slice_mid Ad L cd s (s + y) ((s : Int) + (y : Int)) (by omega) (by omega) (by omega) W
                      rw [show s + y - s = y by omega] at hsl2
                      have hpb := Lib.hid pb
                      subst hAl
                      subst hgg
                      clear hil hgs hsn hsl pb hpl hfg hyl qg hiG
                      go_wp2_with fail
                      go_quiet ((go_at_call 20; exact quiet_d2 (hsb.out _ hpb.out hdat.out)))
                      go_wp2_with fail
                      go_roundw
                      case rel => exact ⟨i + 1, s + y, _, by omega, by go_num, by go_num, by omega, rfl, hnext⟩
                      case measure => simp [intOf]; omega
                    · obtain rfl : N = i := by omega
                      go_wp2_with fail
                      go_ret
                      exact ⟨rfl, below_drewN hBwf.out q⟩
                · have hpos : (0 : Int) < (n1 : Int) := by omega
                  have hne : h1 ≠ [] := fun e => h0 (by rw [← hcl.out, e]; rfl)
                  have hlsF : Hid (∀ _ : Unit, ls = ((gz ++ [(⟨Ap, h1, cp⟩ : Pt)]).map Pt.l).map List.length ∧ ((gz ++ [(⟨Ap, h1, cp⟩ : Pt)]).map Pt.l).flatten = flatL zP P) := Lib.hid fun _ => ⟨by have := hlsP.out; rw [this]; simp [Gear.last, hne], by have := hflat.out; simpa using this⟩
                  have hGl : Hid ((gz ++ [(⟨Ap, h1, cp⟩ : Pt)]).length = j + 1) := Lib.hid (by rw [List.length_append, hgl.out]; rfl)
                  have hNj : j + 1 = N := by
                    have h1 := congrArg List.length (hlsF.out ()).1
                    simp only [List.length_map] at h1
                    rw [← hGl.out, ← h1, hN.out ()]
                  clear hne
                  go_wp2_with (at_builtin; refine wpList_app1 elS _ #[.slice Ap n1 cp] rfl rfl (.tmp 157) (.tmp 159) rfl rfl (by have := hgot6.out.out; rw [hgl.out] at this; exact this) rfl (by intro u hu; simp at hu; subst hu; rfl) (by unfold maxLen; omega) (by omega) hz6 (j + 1) rfl _ rfl ?_; intro Ag2 cg2 w7 own7 at7 hb7)
                  have hgot7 := Lib.hid (hgot.out.piece hgot6.out (by rw [hcl.out]; exact op'.out) (by rw [hgl.out, hcl.out]; exact own7) at7)
                  have hBe2 := Lib.hid (hBe.out.trans (hb7.mono hz5))
                  clear own7 at7 hb7 hgot6 op'
                  have hBf := Lib.hid (hBel.out.trans hBe2.out)
                  have odf := Lib.hid (od5.out.below hBf.out (fun k hk => (ulA.out k hk).2))
                  have rlf := Lib.hid (ol5.out.below hBf.out (fun k hk => (ull.out k hk).2)).nts
                  have hBwf := Lib.hid (hB5.out.trans (hBf.out.mono (by omega)))
                  have hG := hgot7
                  clear hBf hBe hBel od5 ol5 hB5
                  go_wp2_with fail
                  go_loopw [11, 19] (fun av iv wr => ∃ i s q : Nat, i ≤ N ∧ iv = .int .i64 (i : Int) ∧ av = .int .i64 (s : Int) ∧ s ≤ 1048576 ∧ wr = w7.drewN q ∧ Hid (s = (ls.take i).sum)) (fun _ iv _ => N - (intOf iv).toNat)
                  case atStart => exact ⟨0, 0, 0, by omega, rfl, rfl, by omega, rfl, Lib.hid rfl⟩
                  case round =>
                    obtain ⟨i, s, q, hi, rfl, rfl, hs, rfl, hst⟩ := hrel
                    by_cases hlt : i < N
                    · have hil : i < ls.length := by rw [hN.out ()]; exact hlt
                      obtain ⟨bl, ofl, hAl, _, ql⟩ := rlf.out.get (k := i) hil
                      have hgs := get_some hil
                      have hsn := Gear.sum_take_snoc hgs
                      have hsl := sum_take_le ls (i + 1)
                      rw [hsum.out ()] at hsl
                      have hiG : i < (gz ++ [(⟨Ap, h1, cp⟩ : Pt)]).length := by rw [hGl.out, hNj]; exact hlt
                      obtain ⟨gg, hgg⟩ := hG.out.out.head (by omega)
                      have qg := hG.out.out
                      rw [hgg] at qg
                      have qg2 := qg.cell i (by omega)
                      rw [List.getElem?_map, List.getElem?_eq_getElem hiG] at qg2
                      obtain ⟨pb, -⟩ := hG.out.pcs _ (List.getElem_mem hiG)
                      have hpl : ((gz ++ [(⟨Ap, h1, cp⟩ : Pt)]).map Pt.l)[i]? = some ((gz ++ [(⟨Ap, h1, cp⟩ : Pt)])[i]).l := by rw [List.getElem?_map, List.getElem?_eq_getElem hiG]; rfl
                      have hfg := Gear.flat_get _ i _ hpl
                      have hyl0 : ls[i]? = some ((gz ++ [(⟨Ap, h1, cp⟩ : Pt)])[i]).l.length := by rw [(hlsF.out ()).1, List.getElem?_map, hpl]; rfl
                      rw [hgs] at hyl0
                      have hyl := Option.some.inj hyl0
                      clear hyl0
                      rw [← (hlsF.out ()).1, ← hst.out, (hlsF.out ()).2] at hfg
                      generalize ((gz ++ [(⟨Ap, h1, cp⟩ : Pt)]))[i] = z at qg2 pb hfg hyl hpl
                      obtain ⟨Az, lz, cz⟩ := z
                      simp only [Pt.v, Option.map_some] at qg2
                      simp only at pb hfg hyl
                      rw [← hyl] at qg2 hfg
                      generalize ls[i]?.getD 0 = y at ql hgs hsn qg2 hfg hyl
                      have hnext := Lib.hid (show s + y = (ls.take (i + 1)).sum by rw [hsn, hst.out])
                      have hsy : s + y ≤ L := by rw [hnext.out]; omega
                      have hsb : Hid (∀ W, Byt W W.heap.size Az lz → Byt W W.heap.size (cutA Ad s cd) lz → Calls Tryd.prog 20 #[.slice Az y cz, .slice (cutA Ad s cd) y (cd - s)] W fun e w' => e = .returned (.bool true) ∧ ∃ k, w' = W.drewN k) := Lib.hid fun W h1 h2 => by
                        have h1' : Bs W W.heap.size Az y (fun j => ((lz[j]?.getD 0 : Nat) : Int)) := by rw [hyl]; exact h1
                        have h2' : Bs W W.heap.size (cutA Ad s cd) y (fun j => ((lz[j]?.getD 0 : Nat) : Int)) := by rw [hyl]; exact h2
                        exact same_eq Az (cutA Ad s cd) cz (cd - s) y _ _ _ W (by omega) h1' h2'
                      have hdat : Hid (Byt w7 w7.heap.size (cutA Ad s cd) lz) := Lib.hid (by
                        have h3 := odf.out.byt.cut (k := s) (cap := cd) (by rw [hLl.out]; omega) (by rw [hLl.out]; exact hle.1)
                        have h4 := h3.take y (by rw [List.length_drop, hLl.out]; omega)
                        rw [hfg] at h4
                        exact h4)
                      have hsl2 := fun W => slice_mid Ad L cd s (s + y) ((s : Int) + (y : Int)) (by omega) (by omega) (by omega) W
                      rw [show s + y - s = y by omega] at hsl2
                      have hpb := Lib.hid pb
                      subst hAl
                      subst hgg
                      clear hil hgs hsn hsl pb hpl hfg hyl qg hiG
                      go_wp2_with fail
                      go_quiet ((go_at_call 20; exact quiet_d2 (hsb.out _ hpb.out hdat.out)))
                      go_wp2_with fail
                      go_roundw
                      case rel => exact ⟨i + 1, s + y, _, by omega, by go_num, by go_num, by omega, rfl, hnext⟩
                      case measure => simp [intOf]; omega
                    · obtain rfl : N = i := by omega
                      go_wp2_with fail
                      go_ret
                      exact ⟨rfl, below_drewN hBwf.out q⟩
      · have ck := chk_no ok
        have hnew := Lib.hid fun W => new_no a m x W ok
        simp only [Gear.cut_no ok, ck, List.length_nil] at hcut
        clear ok
        go_wp2_with fail
        refine hcut.out.mono ?_
        rintro e w2 ⟨⟨Al, cl, rfl, ol⟩, hb2⟩
        have hB2 := Lib.hid (hBr.out.trans (hb2.mono hBr.out.size))
        have bx2 := Lib.hid (bxr.out.keep hb2 (by omega))
        have hz2 : wr.heap.size ≤ w2.heap.size := hb2.size
        clear q0 q1 q2 q3 hb2 bxr hown ol hBr hcut
        obtain ⟨q0, q1, q2, q3⟩ := bx2.out
        go_wp2_with fail
        refine (hnew.out w2).mono ?_
        rintro e w3 ⟨rfl, hb3⟩
        have hB3 := Lib.hid (hB2.out.trans (hb3.mono hB2.out.size))
        have bx3 := Lib.hid (bx2.out.keep hb3 (by omega))
        clear q0 q1 q2 q3 hb3 bx2 hB2
        obtain ⟨q0, q1, q2, q3⟩ := bx3.out
        go_wp2_with fail
        refine (check_any a m x w3).mono ?_
        rw [ck]
        rintro e w4 ⟨rfl, hb4⟩
        have hB4 := Lib.hid (hB3.out.trans (hb4.mono hB3.out.size))
        clear hb4 bx3
        go_wp2_with fail
        go_ret
        exact ⟨rfl, hB4.out⟩
end Go.Proofs.YtnjbpacnmiimlaaDoor

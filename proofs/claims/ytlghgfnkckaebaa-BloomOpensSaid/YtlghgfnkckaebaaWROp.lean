/- The document's Open of a filter: does it answer one? -/
import Derived.Test.YtlghgfnkckaebaaWNew
import Derived.BigQuiet
namespace Go.Proofs.Ytlghgfnkckaebaa
open Go.RowKit
set_option linter.unusedSimpArgs false
set_option linter.unusedVariables false

/-- What the document's Open answers. -/
def ROpP (w : World) (l : List Nat) (e : Ending) (w' : World) : Prop :=
  ((okF l ∧ ∃ g, e = .returned (.pointer (some ⟨g, 0, none⟩))) ∨ (¬ okF l ∧ e = .returned (.pointer none))) ∧ Below w.heap.size w w'
set_option maxRecDepth 20000 in
set_option maxHeartbeats 4000000 in
theorem ropen_any (w : World) (A : Option Addr) (l : List Nat) (n c : Nat) (hn : l.length = n) (hb : Byt w w.heap.size A l) (hs : n ≤ 140737488355328) (h256 : ∀ x ∈ l, x < 256) :
    Calls Try.prog 21 #[.slice A n c] w (ROpP w l) := by
  by_cases h3 : n < 3
  · have hno : Hid (¬ okF l) := Lib.hid fun q => by have := q.1; omega
    clear hb h256 hn
    go_enter Try.func21, Try.ntmps21
    go_wp2_with fail
    go_ret
    exact ⟨.inr ⟨hno.out, rfl⟩, Below.refl _ _⟩
  · obtain ⟨b0, off, rfl, hbl, hc⟩ := hb (by omega)
    have hcel := Lib.hid hc
    have hg : ∀ i : Nat, l[i]?.getD 0 < 256 := fun i => by
      cases hi : l[i]? with
      | none => show (0 : Nat) < 256; omega
      | some x => exact h256 x (List.mem_of_getElem? hi)
    obtain ⟨x0, hx0⟩ : ∃ x, l[0]?.getD 0 = x := ⟨_, rfl⟩
    obtain ⟨x1, hx1⟩ : ∃ x, l[1]?.getD 0 = x := ⟨_, rfl⟩
    obtain ⟨x2, hx2⟩ : ∃ x, l[2]?.getD 0 = x := ⟨_, rfl⟩
    have c0 : w.cell? ⟨b0, off, none⟩ = some (.int .u8 ((l[0]?.getD 0 : Nat) : Int)) := hc 0 (by omega)
    have c1 : w.cell? ⟨b0, off + 1, none⟩ = some (.int .u8 ((l[1]?.getD 0 : Nat) : Int)) := hc 1 (by omega)
    have c2 : w.cell? ⟨b0, off + 2, none⟩ = some (.int .u8 ((l[2]?.getD 0 : Nat) : Int)) := hc 2 (by omega)
    have g0 := hg 0
    have g1 := hg 1
    have g2 := hg 2
    rw [hx0] at c0 g0
    rw [hx1] at c1 g1
    rw [hx2] at c2 g2
    have hgl := Lib.hid hg
    have hbl' := Lib.hid hbl
    obtain ⟨W, hW⟩ : ∃ W, x1 + 256 * x2 = W := ⟨_, rfl⟩
    have hok : Hid (okF l ↔ (shp ((64 * W : Nat) : Int) (x0 : Int) ∧ n = 3 + 8 * W)) := Lib.hid (by
      unfold okF shp
      rw [hx0, hx1, hx2, hW, hn]
      constructor
      · rintro ⟨q1, q2, q3, q4, q5, q6⟩
        exact ⟨⟨by omega, by omega, by omega, by omega, by omega⟩, by omega⟩
      · rintro ⟨⟨q1, q2, q3, q4, q5⟩, q6⟩
        exact ⟨by omega, by omega, by omega, by omega, by omega, by omega⟩)
    have i1 : (64 : Int) * ((x1 : Int) + 256 * (x2 : Int)) = ((64 * W : Nat) : Int) := by omega
    have hWm : W < 65536 := by omega
    have hn' := Lib.hid hn
    have h3' : 3 ≤ n := by omega
    obtain ⟨b, hbb⟩ : ∃ b, 64 * W = b := ⟨_, rfl⟩
    rw [hbb] at hok i1
    have hb8 : (b : Int).tdiv 8 = ((8 * W : Nat) : Int) := by rw [Int.tdiv_eq_ediv_of_nonneg (by omega)]; omega
    clear hc hg hx0 hx1 hx2 hbl h256 hn h3 hb
    by_cases hsh : shp (b : Int) (x0 : Int)
    · obtain ⟨nn, H, e1, e2, q1, q2, q3, q4⟩ := shp_nat hsh
      have hnw : Hid (∀ W0, Calls Try.prog 47 #[.int .i64 (b : Int), .int .i64 (x0 : Int)] W0 fun e w' => (∃ g A c, e = .returned (.pointer (some ⟨g, 0, none⟩)) ∧ RFlt w' W0.heap.size g A c (List.replicate b false) H) ∧ Below W0.heap.size W0 w') := Lib.hid fun W0 => by
        have := rnew_yes nn H q1 q2 q3 q4 W0
        have eh : H = x0 := by omega
        rw [show 64 * nn = b by omega] at this
        rw [← eh]
        exact this
      by_cases hle : n = 3 + 8 * W
      · have hyes : Hid (okF l) := Lib.hid (hok.out.2 ⟨hsh, hle⟩)
        have u1 : decide ((n : Int) < 3) = false := decide_eq_false (by omega)
        have u2 : ((n : Int) != 3 + 8 * (W : Int)) = false := by simp; omega
        have hle' := Lib.hid hle
        have hlW := Lib.hid (show b = 64 * W from hbb.symm)
        clear hok hsh e1 e2 q1 q2 q3 q4 hle hbb hW
        go_enter Try.func21, Try.ntmps21
        go_wp2_with fail
        go_quiet (fail)
        go_wp2_with (go_at_call 47; refine (hnw.out _).mono ?_; rintro e w2 ⟨⟨g, A2, c2, rfl, hf⟩, hb2⟩; have hf' := Lib.hid hf; have hb2' := Lib.hid hb2; clear hf hb2)
        obtain ⟨a, hA⟩ := hf'.out.own.head (by have := hf'.out.n1; omega)
        subst hA
        have hne : Hid (a ≠ g) := Lib.hid fun q => hf'.out.ne (by rw [← q]; rfl)
        have haz : Hid (w.heap.size ≤ a) := Lib.hid (hf'.out.own.lt a rfl).1
        go_loopw [5] (fun iv wr => ∃ (i : Nat) (bs : List Bool), i ≤ b ∧ iv = .int .i64 (i : Int) ∧ Hid (bs.length = b) ∧ Hid (wr.heap[g]? = some (.cells #[.slice (some ⟨a, 0, none⟩) b c2, .int .i64 (H : Int)] 89 (0, 0))) ∧ Hid (Own wr w.heap.size 4 1 (some ⟨a, 0, none⟩) b c2 (bls bs)) ∧ Hid (Below w.heap.size w wr)) (fun iv _ => b - (intOf iv).toNat)
        case atStart => exact ⟨0, List.replicate b false, by omega, rfl, Lib.hid (List.length_replicate ..), Lib.hid (by have := hf'.out.blk; rwa [List.length_replicate] at this), Lib.hid (by have := hf'.out.own; rwa [List.length_replicate] at this), Lib.hid ((below_drewN (Below.refl _ _) nq).trans hb2'.out)⟩
        case round =>
          clear hb2' c0 c1
          obtain ⟨i, bs, hi, rfl, hbl2, hblk, hown, hbel⟩ := hrel
          by_cases hlt : i < b
          · obtain ⟨k, hk⟩ : ∃ k, i / 8 = k := ⟨_, rfl⟩
            obtain ⟨m, hm⟩ : ∃ m, i % 8 = m := ⟨_, rfl⟩
            have d1 : (i : Int).tdiv 8 = (k : Int) := by rw [Int.tdiv_eq_ediv_of_nonneg (by omega)]; omega
            have d2 : (i : Int).tmod 8 = (m : Int) := by rw [Int.tmod_eq_emod_of_nonneg (by omega)]; omega
            have hkn : 3 + k < n := by have := hle'.out; have := hlW.out; omega
            have hm7 : m < 8 := by omega
            obtain ⟨y, hy⟩ : ∃ y, l[3 + k]?.getD 0 = y := ⟨_, rfl⟩
            have hy256 : y < 256 := by rw [← hy]; exact hgl.out _
            have cy : wr.cell? ⟨b0, off + (3 + k), none⟩ = some (.int .u8 (y : Int)) := (hbel.out.cell (p := ⟨b0, off + (3 + k), none⟩) hbl'.out).trans (by rw [← hy]; exact hcel.out (3 + k) (by rw [hn'.out]; exact hkn))
            have cg : wr.cell? ⟨g, 0, none⟩ = some (.slice (some ⟨a, 0, none⟩) b c2) := cell_of_row _ _ _ _ _ _ hblk.out
            clear hk hm hy
            go_wp2_with fail
            go_loop [6, 7] (fun v j => ∃ jj vv : Nat, jj ≤ m ∧ vv < 256 ∧ v = .int .u8 (vv : Int) ∧ j = .int .i64 (jj : Int)) (fun _ j => m - (intOf j).toNat)
            case atStart => exact ⟨0, y, by omega, hy256, rfl, rfl⟩
            case round =>
              clear hy256 cy
              obtain ⟨jj, vv, hjj, hvv, rfl, rfl⟩ := hrel
              by_cases hlt2 : jj < m
              · obtain ⟨z, hz⟩ : ∃ z : Nat, (vv : Int).tdiv 2 = (z : Int) := ⟨vv / 2, by rw [Int.tdiv_eq_ediv_of_nonneg (by omega)]; omega⟩
                have hz2 : z < 256 := by rw [Int.tdiv_eq_ediv_of_nonneg (by omega)] at hz; omega
                have hz3 : IntKind.u8.wrap (z : Int) = (z : Int) := by rw [IntKind.wrap_u8]; omega
                go_wp2_with fail
                go_round
                case rel => exact ⟨jj + 1, z, by omega, hz2, rfl, by go_num⟩
                case measure => simp [intOf]; omega
              · obtain ⟨bb, hbb⟩ : ∃ bb, ((vv : Int).tmod 2 == 1) = bb := ⟨_, rfl⟩
                have co := hown.out.cell i (by omega)
                have hbi : (bls bs)[i]? = some (.bool (bs[i]?.getD false)) := by
                  have : i < bs.length := by rw [hbl2.out]; exact hlt
                  simp [bls, this]
                rw [hbi] at co
                have fo := hown.out.frozen i
                clear hbi
                go_wp2_with fail
                go_roundw
                case rel => exact ⟨i + 1, bs.set i ((vv : Int) % 2 == 1), by omega, by go_num, Lib.hid (by rw [List.length_set]; exact hbl2.out), Lib.hid (by rw [heap_setCell_other _ _ g _ hne.out.symm]; exact hblk.out), Lib.hid (by have := hown.out.set i (.bool ((vv : Int) % 2 == 1)); rwa [show (bls bs).set i (.bool ((vv : Int) % 2 == 1)) = bls (bs.set i ((vv : Int) % 2 == 1)) by simp [bls, List.map_set]] at this), Lib.hid (hbel.out.trans (grown_below (hown.out.set_grown i _) hbel.out.size (fun j hj => by cases hj; exact haz.out)))⟩
                case measure => simp [intOf]; omega
          · go_wp2_with fail
            go_ret
            exact ⟨.inl ⟨hyes.out, g, rfl⟩, hbel.out⟩
      · have hno : Hid (¬ okF l) := Lib.hid fun q => hle (hok.out.1 q).2
        have u1 : decide ((n : Int) < 3) = false := decide_eq_false (by omega)
        have u2 : ((n : Int) != 3 + 8 * (W : Int)) = true := by simp; omega
        have hle' := Lib.hid hle
        have hlW := Lib.hid (show b = 64 * W from hbb.symm)
        clear hok hsh e1 e2 q1 q2 q3 q4 hle hbb hW
        go_enter Try.func21, Try.ntmps21
        go_wp2_with fail
        go_quiet (fail)
        go_wp2_with (go_at_call 47; refine (hnw.out _).mono ?_; rintro e w2 ⟨⟨g, A2, c2, rfl, hf⟩, hb2⟩; have hb2' := Lib.hid hb2; clear hf hb2)
        go_ret
        exact ⟨.inr ⟨hno.out, rfl⟩, (below_drewN (Below.refl _ _) nq).trans hb2'.out⟩
    · have hno : Hid (¬ okF l) := Lib.hid fun q => hsh (hok.out.1 q).1
      have hnw : Hid (∀ W0, Calls Try.prog 47 #[.int .i64 (b : Int), .int .i64 (x0 : Int)] W0 fun e w' => e = .returned (.pointer none) ∧ W0 = w') := Lib.hid fun W0 => rnew_no hsh W0
      clear hok hsh
      go_enter Try.func21, Try.ntmps21
      go_wp2_with fail
      go_quiet (fail)
      go_wp2_with (go_at_call 47; refine (hnw.out _).mono ?_; rintro e w2 ⟨rfl, rfl⟩)
      go_ret
      exact ⟨.inr ⟨hno.out, rfl⟩, below_drewN (Below.refl _ _) _⟩
end Go.Proofs.Ytlghgfnkckaebaa

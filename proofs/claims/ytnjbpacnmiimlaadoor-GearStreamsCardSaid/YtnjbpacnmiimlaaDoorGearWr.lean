/- Cutter.Write. -/
import Derived.Test.YtnjbpacnmiimlaaDoorGearS
import Derived.Laws.EntriesVeiled
namespace Go.Proofs.YtnjbpacnmiimlaaDoor
open Go.RowKit

theorem AppAt.cellAt {w w' : World} {A A' : Option Addr} (h : AppAt w w' A A') {g : Nat} {cs : Array Value} {t : TypeId} (hg : w.heap[g]? = some (.cells cs t (0, 0))) (hA : blockOf A ≠ some g) : w'.heap[g]? = some (.cells cs t (0, 0)) :=
  (h.grown.block g (lt_of_block hg) (fun e => hA e.symm)).trans hg
theorem free_row {w : World} {g : Nat} {cs : Array Value} {t : TypeId} (hg : w.heap[g]? = some (.cells cs t (0, 0))) (j : Nat) : w.frozen? ⟨g, j, none⟩ = false := by
  unfold World.frozen?
  rw [show w.heap[(⟨g, j, none⟩ : Addr).block]? = _ from hg]
  simp
theorem take_snoc {l : List Nat} {k : Nat} (h : k < l.length) : l.take (k + 1) = l.take k ++ [l[k]?.getD 0] := by rw [List.take_add_one, List.getElem?_eq_getElem h]; rfl

theorem slice_zero (b L c : Nat) (hc : 0 < c) (W : World) :
    (Instr.slice 24 (.slice (some ⟨b, 0, none⟩) L c) none (some (.int .i64 0)) none).run Tryd.prog W = .ok (.slice (some ⟨b, 0, none⟩) 0 c) W := by
  have hs : (sizeOf (Tryd.prog.elem 24)).run Tryd.prog W = .ok 1 W := by kernel_rfl
  rw [run_slice_h W 24 _ L c (by rw [Tryd.underlying24]; kernel_rfl) .i64 0 (by omega) (by omega), hs]
  simp only [Result.andThen, sliced, Int.toNat_zero, Nat.zero_mul, Nat.sub_zero]
  rw [if_neg (by omega)]
  simp [Addr.add_lit]
theorem tz_fr {w w' : World} {D : Nat → Prop} (h : Tz w) (hf : Fr D w w') (hD : ∀ k, D k → k ≠ 1) : Tz w' := fun j hj =>
  (World.cell?_of_block (hf.block 1 (World.block_lt_of_cell? _ _ (h j hj)) (fun e => hD _ e rfl))).trans (h j hj)

theorem rolls_nil_ : Gear.rolls [] = 0 := rfl
/-- What Write leaves. -/
def WrPost (w : World) (B bc : Nat) (a m x : Int) (A : Option Addr) (n _c : Nat) (held : List Nat) (S : Nat) (l : List Nat) (L : Nat) (e : Ending) (w' : World) : Prop :=
  ∃ (Ao : Option Addr) (co : Nat) (zs : List Pt) (A' : Option Addr) (n' c' : Nat) (S' : Nat),
      e = .returned (.tuple #[.slice Ao zs.length co, .int .i64 0]) ∧ zs.map Pt.l = (Gear.puts a m x ([], held) l).1 ∧ n' ≤ n + L ∧ (Gear.scan a m x 0 0 (Gear.puts a m x ([], held) l).2).2 = false ∧
      WSt w B (Dirty bc A S) bc a m x w' A' n' c' (Gear.puts a m x ([], held) l).2 S' n' (Gear.rolls (Gear.puts a m x ([], held) l).2) Ao co zs

set_option maxRecDepth 20000 in
set_option maxHeartbeats 4000000 in
theorem write_any (B bc : Nat) (a m x : Int) (A : Option Addr) (n c : Nat) (held : List Nat) (S : Nat) (l : List Nat) (Al : Option Addr) (cl L : Nat) (w : World) (hcu : Cutr w B bc a m x A n c held S) (hlen : l.length = L) (hl : ∀ b ∈ l, b < 256) (hb : n + L ≤ 4194304) (hr : Byt w w.heap.size Al l) (hAl : 0 < L → ∀ k, blockOf Al = some k → ¬ Dirty bc A S k) (hT : Tz w) (hTd : ∀ k, Dirty bc A S k → k ≠ 1) :
    Calls Tryd.prog 24 #[.pointer (some ⟨bc, 0, none⟩), .slice Al L cl] w fun e w' => WrPost w B bc a m x A n c held S l L e w' := by
  have hlen' := Lib.hid hlen
  have hl' := Lib.hid hl
  have hr' := Lib.hid hr
  have hAl' := Lib.hid hAl
  have hT' := Lib.hid hT
  have hTd' := Lib.hid hTd
  have hcu' := Lib.hid hcu
  have hst0 : WSt w B (Dirty bc A S) bc a m x w A n c held S n (Gear.rolls held) none 0 [] :=
    ⟨hcu.toX, Own.nil _ _ _ _, (fun k hk => by cases hk), (fun z hz => by cases hz), Fr.refl _ _, fun _ _ e => e⟩
  have hst0' := Lib.hid hst0
  have hsc0 := Lib.hid hcu.scan
  have hus := Lib.hid (usable_any w hcu)
  clear hlen hl hr hAl hT hTd hcu hst0
  go_enter Tryd.func24, Tryd.ntmps24
  go_wp2_with (go_at_call 36; refine hus.out.mono ?_; rintro e w' ⟨rfl, rfl⟩)
  go_loopw [7, 17] (fun ov iv wr => ∃ (k : Nat) (A1 : Option Addr) (n1 c1 : Nat) (h1 : List Nat) (S1 : Nat) (Ao : Option Addr) (j co : Nat) (zs : List Pt), k ≤ L ∧ iv = .int .i64 (k : Int) ∧ ov = .slice Ao j co ∧ n1 ≤ n + k ∧ j ≤ k ∧ Hid (zs.length = j) ∧ Hid (WSt w B (Dirty bc A S) bc a m x wr A1 n1 c1 h1 S1 n1 (Gear.rolls h1) Ao co zs) ∧ Hid (∀ _ : Unit, (Gear.scan a m x 0 0 h1).2 = false) ∧ Hid (∀ _ : Unit, Gear.puts a m x ([], held) (l.take k) = (zs.map Pt.l, h1))) (fun _ iv _ => L - (intOf iv).toNat)
  case atStart => exact ⟨0, A, n, c, held, S, none, 0, 0, [], by omega, rfl, rfl, by omega, by omega, Lib.hid rfl, hst0', Lib.hid fun _ => hsc0.out, Lib.hid fun _ => rfl⟩
  case round =>
    clear hst0' hsc0 hus
    obtain ⟨k, A1, n1, c1, h1, S1, Ao, j, co, zs, hk, rfl, rfl, hn1, hj, hzl, hst, hsc, hpu⟩ := hrel
    by_cases hlt : k < L
    · have hkl : k < l.length := by rw [hlen'.out]; exact hlt
      have hrr := hr'.out.fr hst.out.fr (hAl'.out (by omega))
      obtain ⟨b0, off, hAe, _, qd⟩ := hrr.get (k := k) hkl
      subst hAe
      have hts := take_snoc hkl
      have hbb : l[k]?.getD 0 < 256 := by
        rw [List.getElem?_eq_getElem hkl]
        exact hl'.out _ (List.getElem_mem hkl)
      generalize l[k]?.getD 0 = b at qd hts hbb
      have hts' := Lib.hid hts
      obtain ⟨q0, q1, q2, q3, q4, q5⟩ := hst.out.cu.cells
      have hbcs := Lib.hid hst.out.cu.cell
      clear hrr hts hkl q4 q5 q0 q1 q2
      by_cases he : Gear.ends a m x (n1 + 1) (Gear.roll (Gear.rolls h1) b) = true
      · have hpu2 : Hid (∀ _ : Unit, Gear.puts a m x ([], held) (l.take (k + 1)) = (zs.map Pt.l ++ [h1 ++ [b]], [])) := Lib.hid fun _ => by
          rw [hts'.out, Gear.puts_snoc, hpu.out (), Gear.put1_hit (by rw [show (zs.map Pt.l, h1).2.length = n1 from hst.out.cu.len]; exact he)]
        have he' := Lib.hid he
        have hhl := Lib.hid (show (h1 ++ [b]).length = n1 + 1 by rw [List.length_append, hst.out.cu.len]; rfl)
        clear he
        go_wp2_with (first
          | (at_builtin; refine wpList_app1 elB _ #[_] rfl rfl (.tmp 25) (.tmp 27) rfl rfl hst.out.cu.own rfl (by intro u hu; simp at hu; subst hu; rfl) (by unfold maxLen; omega) (by omega) (by have := hst.out.cu.lt bc (.inl rfl); omega) (n1 + 1) rfl _ rfl ?_; intro A2 c2 w1 own1 at1 _; have hw1 := at1.cellAt hbcs.out hst.out.cu.hA; have z3 := cell_of_row w1 bc 3 _ _ _ hw1; have f3 := free_row hw1 3; have hst2 := Lib.hid (hst.out.app (b := b) (by rw [u8s_append]; exact own1) at1); obtain ⟨-, -, -, -, r4, -⟩ := hst2.out.cu.cells; unfold tstV at r4; clear hw1 own1 at1)
          | (go_at_call 40; refine (clo_any S1 a m x n1 (Gear.rolls h1) b _ hst2.out.cu.ok hst2.out.cu.tst hbb (by omega)).mono ?_; rw [he'.out]; rintro e w3 ⟨rfl, q3, rfl⟩; have hst3 := Lib.hid (hst2.out.tick (n1 + 1) (Gear.roll (Gear.rolls h1) b) q3); obtain ⟨-, -, -, s3, -, -⟩ := hst3.out.cu.cells; clear r4)
          | (go_at_call 34; refine (clone_any (h1 ++ [b]) A2 (n1 + 1) c2 _ _ hhl.out (by omega) hst3.out.cu.own.byt).mono ?_; rintro e w4 ⟨⟨Ap, cp, rfl, op⟩, hb4⟩; have op' := Lib.hid op; have hb4' := Lib.hid hb4; have ou4 := Lib.hid (show Own w4 w.heap.size 24 1 Ao j co (zs.map Pt.v) by have := (hst3.out.below hb4).out; rwa [hzl.out] at this); clear op hb4)
          | (at_builtin; refine wpList_app1 elS _ #[.slice Ap (n1 + 1) cp] rfl rfl (.tmp 37) (.tmp 43) rfl rfl ou4.out rfl (by intro u hu; simp at hu; subst hu; rfl) (by unfold maxLen; omega) (by omega) (by have := (hst3.out.below hb4'.out).fr.size; exact this) (j + 1) rfl _ rfl ?_; intro Ao2 co2 w5 own5 at5 _; have hst5 := Lib.hid (hst3.out.piece hb4'.out (by rw [hhl.out]; exact op'.out) (by rw [hhl.out, hzl.out]; exact own5) at5); clear own5 at5))
        obtain ⟨g2, hg2⟩ := hst5.out.cu.own.head (by omega)
        subst hg2
        have hle2 := hst5.out.cu.own.le
        have hle3 : n1 + 1 ≤ c2 := hle2.1
        have hsl := fun W => slice_zero g2 (n1 + 1) c2 (by omega) W
        obtain ⟨y0, y1, y2, y3, y4, y5⟩ := hst5.out.cu.cells
        have fy3 := hst5.out.cu.free 3
        have fy4 := hst5.out.cu.free 4
        have hT5 := Lib.hid (tz_fr hT'.out hst5.out.fr hTd'.out)
        have hbc5 := Lib.hid hst5.out.cu.cell
        have hends := Lib.hid fun W (hW : Below w5.heap.size w5 W) => ends_any a m x W hst5.out.cu.ok (hT5.out.below hW)
        unfold tstV at y4 hends
        clear hle2 z3 f3 s3 hst2 hst3 hst op' hb4' ou4 hbcs qd
        go_region_with (go_at_call 31; refine (hends.out _ (by first | exact Below.refl _ _ | exact below_drewN (Below.refl _ _) 1)).mono ?_; rintro e w6 ⟨rfl, ht6, hb6, hs6⟩; have v0 := (hb6.cell (p := ⟨bc, 0, none⟩) (lt_of_block hbc5.out)).trans y0; have v1 := (hb6.cell (p := ⟨bc, 1, none⟩) (lt_of_block hbc5.out)).trans y1; have v2 := (hb6.cell (p := ⟨bc, 2, none⟩) (lt_of_block hbc5.out)).trans y2; have v3 := (hb6.cell (p := ⟨bc, 3, none⟩) (lt_of_block hbc5.out)).trans y3; have v4 := (hb6.cell (p := ⟨bc, 4, none⟩) (lt_of_block hbc5.out)).trans y4; have gv3 := (World.frozen?_of_block (a := ⟨bc, 3, none⟩) (hb6.block bc (lt_of_block hbc5.out))).trans fy3; have gv4 := (World.frozen?_of_block (a := ⟨bc, 4, none⟩) (hb6.block bc (lt_of_block hbc5.out))).trans fy4)
        all_goals
          have hst6 := Lib.hid (hst5.out.reset (w1 := w6) ⟨hb6.os, hb6.tape, hb6.output, hb6.size, hb6.block⟩ ht6)
          unfold tstV at hst6
          clear v0 v1 v2 v3 v4 gv3 gv4 ht6 hb6 hends y0 y1 y2 y3 y4 y5 fy3 fy4 hst5
          go_wp2_with fail
          go_roundw
          case rel => exact ⟨k + 1, some ⟨g2, 0, none⟩, 0, c2, [], w5.heap.size, Ao2, j + 1, co2, zs ++ [(⟨Ap, h1 ++ [b], cp⟩ : Pt)], by omega, by go_num, rfl, by omega, by omega, Lib.hid (by rw [List.length_append, hzl.out]; rfl), Lib.hid (by rw [rolls_nil_]; exact hst6.out), Lib.hid fun _ => rfl, Lib.hid fun _ => by rw [hpu2.out (), List.map_append]; rfl⟩
          case measure => simp [intOf]; omega
      · have hpu2 : Hid (∀ _ : Unit, Gear.puts a m x ([], held) (l.take (k + 1)) = (zs.map Pt.l, h1 ++ [b])) := Lib.hid fun _ => by
          rw [hts'.out, Gear.puts_snoc, hpu.out (), Gear.put1_miss (by rw [show (zs.map Pt.l, h1).2.length = n1 from hst.out.cu.len]; exact he)]
        have hsc2 : Hid (∀ _ : Unit, (Gear.scan a m x 0 0 (h1 ++ [b])).2 = false) := Lib.hid fun _ => Gear.scan_false_snoc (hsc.out ()) (by rw [hst.out.cu.len]; exact he)
        have he' := Lib.hid (show Gear.ends a m x (n1 + 1) (Gear.roll (Gear.rolls h1) b) = false by simpa using he)
        clear he
        go_wp2_with (first
          | (at_builtin; refine wpList_app1 elB _ #[_] rfl rfl (.tmp 25) (.tmp 27) rfl rfl hst.out.cu.own rfl (by intro u hu; simp at hu; subst hu; rfl) (by unfold maxLen; omega) (by omega) (by have := hst.out.cu.lt bc (.inl rfl); omega) (n1 + 1) rfl _ rfl ?_; intro A2 c2 w1 own1 at1 _; have hw1 := at1.cellAt hbcs.out hst.out.cu.hA; have z3 := cell_of_row w1 bc 3 _ _ _ hw1; have f3 := free_row hw1 3; have hst2 := Lib.hid (hst.out.app (b := b) (by rw [u8s_append]; exact own1) at1); obtain ⟨-, -, -, -, r4, -⟩ := hst2.out.cu.cells; unfold tstV at r4; clear hw1 own1 at1)
          | (go_at_call 40; refine (clo_any S1 a m x n1 (Gear.rolls h1) b _ hst2.out.cu.ok hst2.out.cu.tst hbb (by omega)).mono ?_; rw [he'.out]; rintro e w3 ⟨rfl, q3, rfl⟩))
        have hst3 := hst2.out.tick (n1 + 1) (Gear.roll (Gear.rolls h1) b) q3
        go_roundw
        case rel => exact ⟨k + 1, A2, n1 + 1, c2, h1 ++ [b], S1, Ao, j, co, zs, by omega, by go_num, rfl, by omega, by omega, hzl, Lib.hid (by rw [Gear.rolls_snoc]; exact hst3), hsc2, hpu2⟩
        case measure => simp [intOf]; omega
    · obtain rfl : L = k := by omega
      have hfin : Hid (∀ _ : Unit, Gear.puts a m x ([], held) l = (zs.map Pt.l, h1)) := Lib.hid fun _ => by
        have e := hpu.out ()
        rwa [← hlen'.out, List.take_length] at e
      have hzl2 := hzl.out
      subst hzl2
      go_wp2_with fail
      go_ret2
      unfold WrPost
      rw [hfin.out ()]
      exact ⟨Ao, co, zs, A1, n1, c1, S1, rfl, rfl, hn1, hsc.out (), hst.out⟩
end Go.Proofs.YtnjbpacnmiimlaaDoor

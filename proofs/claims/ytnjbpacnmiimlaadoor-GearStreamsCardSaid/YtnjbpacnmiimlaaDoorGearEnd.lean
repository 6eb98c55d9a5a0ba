/- Cutter.End; the lists of pieces of several Writes. -/
import Derived.Test.YtnjbpacnmiimlaaDoorGearWr
import Derived.Test.YtnjbpacnmiimlaaDoorGSame
namespace Go.Proofs.YtnjbpacnmiimlaaDoor
open Go.RowKit

set_option maxRecDepth 20000 in
theorem new_no (a m x : Int) (w : World) (ok : ¬ okRule a m x) :
    Calls Tryd.prog 22 #[.agg #[.int .i64 a, .int .i64 m, .int .i64 x]] w fun e w' => e = .returned (.tuple #[.pointer none, .int .i64 50]) ∧ Below w.heap.size w w' := by
  have ck := chk_no ok
  obtain ⟨c0, c1, c2⟩ := box3 w a m x
  have hb0 := Lib.hid ((Below.refl w.heap.size w).alloc (Nat.le_refl _) (.cells #[.int .i64 a, .int .i64 m, .int .i64 x] 23))
  clear ok
  go_enter Tryd.func22, Tryd.ntmps22
  go_wp2_with (go_at_call 23; refine (check_any a m x _).mono ?_; rw [ck]; rintro e w1 ⟨rfl, hb1⟩)
  go_ret2
  exact ⟨rfl, hb0.out.trans (hb1.mono (by simp))⟩

/-- What End leaves. -/
def EndPost (w : World) (bc : Nat) (a m x : Int) (n : Nat) (held : List Nat) (S : Nat) (e : Ending) (w' : World) : Prop :=
  ∃ (A' : Option Addr) (c' : Nat), e = .returned (.tuple #[.slice A' n c', .int .i64 0]) ∧ Own w' w.heap.size 5 1 A' n c' (u8s held) ∧ Fr (fun k => k = bc) w w' ∧
    w'.heap[bc]? = some (.cells (cutV a m x none 0 0 S true) 76 (0, 0))

set_option maxRecDepth 20000 in
set_option maxHeartbeats 1000000 in
theorem end_any (B bc : Nat) (a m x : Int) (A : Option Addr) (n c : Nat) (held : List Nat) (S : Nat) (w : World) (hcu : Cutr w B bc a m x A n c held S) (hn : n ≤ 8388608) :
    Calls Tryd.prog 25 #[.pointer (some ⟨bc, 0, none⟩)] w fun e w' => EndPost w bc a m x n held S e w' := by
  have hX := hcu.toX
  obtain ⟨q0, q1, q2, q3, q4, q5⟩ := hX.cells
  have f3 := hX.free 3
  have f5 := hX.free 5
  have hus := Lib.hid (usable_any w hcu)
  have hF1 := Fr.setCell w ⟨bc, 5, none⟩ (.bool true)
  have c1 := heap_setCell_same w bc 5 _ _ (.bool true) hcu.cell
  have o1 : Own (w.setCell ⟨bc, 5, none⟩ (.bool true)) B 5 1 A n c (u8s held) := hcu.own.fr hF1 (fun k hk e => hcu.hA (by rw [hk, e]))
  have hlen := Lib.hid hcu.len
  have z3 : (w.setCell ⟨bc, 5, none⟩ (.bool true)).cell? ⟨bc, 3, none⟩ = some (.slice A n c) := cell_of_row _ bc 3 _ _ _ c1
  have g3 := free_row c1 3
  have o1' := Lib.hid o1
  have c1' := Lib.hid c1
  have hF1' := Lib.hid hF1
  have hcl := Lib.hid (clone_any held A n c _ _ hlen.out (by omega) o1'.out.byt)
  unfold tstV at q4
  clear hX hcu o1 c1 hF1
  go_enter Tryd.func25, Tryd.ntmps25
  go_wp2_with (first
    | (go_at_call 36; refine hus.out.mono ?_; rintro e w' ⟨rfl, rfl⟩)
    | (go_at_call 34; refine hcl.out.mono ?_; rintro e w2 ⟨⟨Ap, cp, rfl, op⟩, hb2⟩; have c2 := (hb2.block bc (lt_of_block c1'.out)).trans c1'.out; have c2' := Lib.hid c2; have y3 := cell_of_row w2 bc 3 _ _ _ c2; have fy3 := free_row c2 3; have op' := Lib.hid op; have hb2' := Lib.hid hb2; clear c2 op hb2))
  go_ret2
  have hbl : bc < w.heap.size := by have := lt_of_block c1'.out; simpa using this
  have hF2 : Fr (fun k => k = bc) w w2 := hF1'.out.trans (Fr.of_below (fun _ => False) hb2'.out) (fun _ _ e => e.elim)
  have hF3 := Fr.setCell w2 ⟨bc, 3, none⟩ (.slice none 0 0)
  refine ⟨Ap, cp, rfl, ?_, hF2.trans hF3 (fun _ _ e => e), heap_setCell_same w2 bc 3 _ _ _ c2'.out⟩
  refine (op'.out.base (by simp)).fr hF3 (fun k hk e => ?_)
  have := (op'.out.lt k hk).1
  simp at this e
  omega

section
variable {w0 : World} {B : Nat} {D0 : Nat → Prop} {bc : Nat} {a m x : Int} {w w' w'' : World} {A A' : Option Addr} {n n' c c' : Nat} {held held' : List Nat} {S S' tn th tn' th' : Nat} {Ag Ao Ag' : Option Addr} {cg co cg' : Nat} {gz zs : List Pt}
/-- Further pieces, laid behind those that were gathered. -/
theorem WSt.joins (h : WSt w0 B D0 bc a m x w A n c held S tn th Ag cg gz) (h2 : WSt w B (Dirty bc A S) bc a m x w' A' n' c' held' S' tn' th' Ao co zs) (ho : Own w'' w0.heap.size 24 1 Ag' (gz.length + zs.length) cg' (gz.map Pt.v ++ zs.map Pt.v)) (hat : AppAt w' w'' Ag Ag') :
    WSt w0 B D0 bc a m x w'' A' n' c' held' S' tn' th' Ag' cg' (gz ++ zs) := by
  have h3 := h.move h2.fr (fun _ _ e => e) h2.cu h2.dirt
  have f1 : Fr (fun k => blockOf Ag = some k) w' w'' := Fr.of_grown hat.grown
  have hl := h3.cu.lt
  have lo : ∀ k, blockOf Ag = some k → k < w.heap.size := fun k hk => (h.out.lt k hk).2
  refine ⟨h3.cu.fr f1 (fun k hk e => h3.outD k e hk), by rw [List.map_append, List.length_append]; exact ho, hat.place (fun k => ¬ Dirty bc A' S' k) h3.outD (fun k hk e => by have := (hl k e).2; omega), fun z hz => ?_, h3.fr.trans f1 (fun k hk e => by have := (h3.out.lt k e).1; omega), h3.dirt⟩
  rcases List.mem_append.1 hz with hz | hz
  · obtain ⟨p1, p2⟩ := h3.pcs z hz
    refine ⟨(p1.fr f1 (fun k hk e => (p2 k hk).2.2.2 e)).mono f1.size, fun k hk => ?_⟩
    obtain ⟨q1, q2, q3, q4⟩ := p2 k hk
    exact ⟨q1, Nat.lt_of_lt_of_le q2 f1.size, q3, hat.off q2 q4⟩
  · obtain ⟨p1, p2⟩ := h2.pcs z hz
    have hne : ∀ k, blockOf z.A = some k → blockOf Ag ≠ some k := fun k hk e => by
      have := (p2 k hk).1
      have := lo k e
      omega
    refine ⟨(p1.fr f1 (fun k hk e => hne k hk e)).mono f1.size, fun k hk => ?_⟩
    obtain ⟨q1, q2, q3, _⟩ := p2 k hk
    have hs := h.size
    exact ⟨by omega, Nat.lt_of_lt_of_le q2 f1.size, q3, hat.off q2 (hne k hk)⟩
/-- The pieces gathered. -/
structure Got (w : World) (b : Nat) (Ag : Option Addr) (cg : Nat) (gz : List Pt) : Prop where
  out : Own w b 24 1 Ag gz.length cg (gz.map Pt.v)
  pcs : ∀ z ∈ gz, Byt w w.heap.size z.A z.l ∧ ∀ k, blockOf z.A = some k → k < w.heap.size ∧ blockOf Ag ≠ some k
theorem WSt.got (h : WSt w0 B D0 bc a m x w A n c held S tn th Ag cg gz) : Got w w0.heap.size Ag cg gz := ⟨h.out, fun z hz => ⟨(h.pcs z hz).1, fun k hk => ⟨((h.pcs z hz).2 k hk).2.1, ((h.pcs z hz).2 k hk).2.2.2⟩⟩⟩
theorem Got.fr {b : Nat} {D : Nat → Prop} (h : Got w b Ag cg gz) (hf : Fr D w w') (h1 : ∀ k, blockOf Ag = some k → ¬ D k) (h2 : ∀ z ∈ gz, ∀ k, blockOf z.A = some k → ¬ D k) : Got w' b Ag cg gz :=
  ⟨h.out.fr hf h1, fun z hz => ⟨((h.pcs z hz).1.fr hf (h2 z hz)).mono hf.size, fun k hk => ⟨Nat.lt_of_lt_of_le ((h.pcs z hz).2 k hk).1 hf.size, ((h.pcs z hz).2 k hk).2⟩⟩⟩
theorem Got.piece {b : Nat} (h : Got w b Ag cg gz) {w1 : World} {Ap : Option Addr} {cp : Nat} {l : List Nat} (h1 : Got w1 b Ag cg gz) (hp : Own w1 w.heap.size 5 1 Ap l.length cp (u8s l)) (ho : Own w' b 24 1 Ag' (gz.length + 1) cg' (gz.map Pt.v ++ [.slice Ap l.length cp])) (hat : AppAt w1 w' Ag Ag') : Got w' b Ag' cg' (gz ++ [⟨Ap, l, cp⟩]) := by
  have f1 : Fr (fun k => blockOf Ag = some k) w1 w' := Fr.of_grown hat.grown
  have hpne : ∀ k, blockOf Ap = some k → blockOf Ag ≠ some k := fun k hk e => by
    have := (hp.lt k hk).1
    have := (h.out.lt k e).2
    omega
  refine ⟨by rw [List.map_append, List.length_append]; exact ho, fun z hz => ?_⟩
  rcases List.mem_append.1 hz with hz | hz
  · obtain ⟨p1, p2⟩ := h1.pcs z hz
    exact ⟨(p1.fr f1 (fun k hk e => (p2 k hk).2 e)).mono f1.size, fun k hk => ⟨Nat.lt_of_lt_of_le (p2 k hk).1 f1.size, hat.off (p2 k hk).1 (p2 k hk).2⟩⟩
  · obtain rfl := List.mem_singleton.1 hz
    exact ⟨(hp.byt.fr f1 (fun k hk e => hpne k hk e)).mono f1.size, fun k hk => ⟨Nat.lt_of_lt_of_le (hp.lt k hk).2 f1.size, hat.off (hp.lt k hk).2 (hpne k hk)⟩⟩
end
end Go.Proofs.YtnjbpacnmiimlaaDoor

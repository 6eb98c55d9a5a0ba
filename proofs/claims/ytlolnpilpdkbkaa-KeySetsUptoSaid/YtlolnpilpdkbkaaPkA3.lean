/- Keys in memory: arrays of 32 bytes. Sets of keys: there, Len, Has. NewSet of keys. (Printed by tools/gennewset.py.) What reads as a key: thirty-two bytes, and these alone. -/
import Derived.Test.YtlolnpilpdkbkaaPkA1
import Derived.Test.YtlolnpilpdkbkaaPkA2
import Derived.Test.YtlolnpilpdkbkaaProg
import Derived.Laws.Tables
import Derived.Deep.MidRow
import Derived.Deep.WholeRow
import Derived.Maps.OwnSet
import Derived.DeepKeys4
import Derived.WideKeyArr
import Derived.BigQuiet
import Derived.Deep.RegionHeld3
import Derived.WalkSpells

namespace Go.Proofs.Ytlolnpilpdkbkaa
open Go.RowKit
set_option linter.unusedSimpArgs false

def zeros (n : Nat) : List Nat := List.replicate n 0
theorem setRow_below {B : Nat} {a w : World} (h : Below B a w) {g : Nat} (hg : B ≤ g) (cs : Array Value) : Below B a (w.setRow g cs) :=
  h.trans ⟨rfl, rfl, rfl, by simp, fun k hk => setRow_other _ _ _ _ (by omega)⟩
theorem u8s_set (l : List Nat) (k y : Nat) : (u8s l).set k (.int .u8 (y : Int)) = u8s (l.set k y) := by
  simp [u8s, List.map_set]
theorem zeroKy (w : World) : (zeroValue 25).run Try.prog w = .ok (.agg (u8s (zeros 32)).toArray) w :=
  (zero_of_info (P := Try.prog) (t := 25) (v := .agg (u8s (zeros 32)).toArray) (n := 32) (by kernel_rfl)).1 w
/-- A block that holds a key's bytes. -/
def BlkY (w : World) (g : Nat) (l : List Nat) : Prop := w.heap[g]? = some (.cells (u8s l).toArray 25 (0, 0))
theorem BlkY.cell {w : World} {g : Nat} {l : List Nat} (h : BlkY w g l) {k : Nat} (hk : k < l.length) : w.cell? ⟨g, k, none⟩ = some (.int .u8 ((l[k]?.getD 0 : Nat) : Int)) := by
  rw [cell_of_row _ _ _ _ _ _ h, List.getElem?_toArray]
  exact u8s_get l k hk
theorem BlkY.frozen {w : World} {g : Nat} {l : List Nat} (h : BlkY w g l) (k : Nat) : w.frozen? ⟨g, k, none⟩ = false := frozen_of_row _ _ _ _ _ h
theorem BlkY.lt {w : World} {g : Nat} {l : List Nat} (h : BlkY w g l) : g < w.heap.size := (Array.getElem?_eq_some_iff.1 h).1
theorem BlkY.below {w w' : World} {g : Nat} {l : List Nat} (h : BlkY w g l) (hb : Below w.heap.size w w') : BlkY w' g l := (hb.block g h.lt).trans h
theorem BlkY.set {w : World} {g : Nat} {l : List Nat} (h : BlkY w g l) (k x : Nat) : BlkY (w.setCell ⟨g, k, none⟩ (.int .u8 (x : Int))) g (l.set k x) := by
  have := heap_setCell_same w g k _ _ (.int .u8 (x : Int)) h
  unfold BlkY
  rw [this]
  simp [u8s, List.map_set]
theorem BlkY.far {w : World} {g : Nat} {l : List Nat} (h : BlkY w g l) {p : Addr} (hp : g ≠ p.block) (u : Value) : BlkY (w.setCell p u) g l := (heap_setCell_other w p g u hp).trans h
theorem BlkY.new (w : World) (l : List Nat) : BlkY (w.alloc (.cells (u8s l).toArray 25)) w.heap.size l := heap_alloc_new w _
theorem BlkY.alloc {w : World} {g : Nat} {l : List Nat} (h : BlkY w g l) (o : Obj) : BlkY (w.alloc o) g l := (Below.heap_alloc w o g h.lt).trans h
section
variable {P : Program} {ops : Array Oper} {rest : List Oper} {o : Oper} {a : Act} {w : World} {Q : Exit → Act → World → Prop}
/-- A guarded load of a whole array. -/
theorem wpList_load_row_g (hw : Region.wanted o (yielded ops a.tmps) = true) (ty : TypeId) (x : Operand) (ho : o.op = .load ty x)
    (g : Nat) (hx : a.eval x = .pointer (some ⟨g, 0, none⟩)) (t : TypeId) (cs : Array Value) (fr : Nat × Nat) (d : TypeDesc) (hg : w.heap[g]? = some (.cells cs t fr))
    (hu : P.underlying ty = some d) (hd : (match d with | .struct _ | .array _ _ => true | _ => false) = true) (hi : (P.info? ty).map (·.size) = some cs.size)
    (h : wpList P ops Q rest (a.put o.dst (.agg cs)) w) : wpList P ops Q (o :: rest) a w :=
  wpList_step fun K hK => by
    rw [if_pos hw]
    exact wp_load_row ty x ho g hx t cs fr d hg hu hd hi (hK _ _ h)
end

theorem eqK {l l' : List Nat} (h : l.length = 32) (h' : l'.length = 32) (w : World) : (binOp .eql 25 (.agg (u8s l).toArray) (.agg (u8s l').toArray)).run Try.prog w = .ok (.bool (decide (l = l'))) w := by
  obtain ⟨i, hi⟩ := Option.isSome_iff_exists.1 (show (Try.prog.info? 5).isSome = true by kernel_rfl)
  exact eql_nrow (k := .u8) Try.underlying25 Try.underlying5 (by kernel_rfl) hi h h'
theorem neK {l l' : List Nat} (h : l.length = 32) (h' : l'.length = 32) (w : World) : (binOp .neq 25 (.agg (u8s l).toArray) (.agg (u8s l').toArray)).run Try.prog w = .ok (.bool (!decide (l = l'))) w := by
  obtain ⟨i, hi⟩ := Option.isSome_iff_exists.1 (show (Try.prog.info? 5).isSome = true by kernel_rfl)
  exact neq_nrow (k := .u8) Try.underlying25 Try.underlying5 (by kernel_rfl) hi h h'

/-- A key laid in a new block. -/
theorem key_new (w : World) (D : List Nat) : BlkY ((w.alloc (.cells (u8s (zeros 32)).toArray 25)).setRow w.heap.size (u8s D).toArray) w.heap.size D ∧ Below w.heap.size w ((w.alloc (.cells (u8s (zeros 32)).toArray 25)).setRow w.heap.size (u8s D).toArray) :=
  ⟨setRow_heap _ w.heap.size _ _ _ _ (heap_alloc_new w _), setRow_below ((Below.refl _ _).alloc (Nat.le_refl _) _) (Nat.le_refl _) _⟩

theorem index32 {F : List Nat} {k x : Nat} (hk : k < 32) (hx : (u8s F)[k]? = some (.int .u8 (x : Int))) (w : World) : (Instr.index 25 (.agg (u8s F).toArray) (.int .i64 (k : Int))).run Try.prog w = .ok (.int .u8 (x : Int)) w := by
  have hs : (sizeOf 5).run Try.prog w = .ok 1 w := by kernel_rfl
  have hp : Try.prog.plainKey 5 = true := by simp [Program.plainKey, Try.underlying5]
  have hpart : (part 5 (u8s F).toArray k).run Try.prog w = .ok (.int .u8 (x : Int)) w := run_part_plain w hp (by rw [List.getElem?_toArray]; exact hx)
  have h1 : (0 : Int) ≤ (k : Int) ∧ (k : Int) < 32 := by omega
  simp [Instr.index, run_underlying Try.underlying25, asIntOf, h1, hs, hpart]
  intro h
  omega
end Go.Proofs.Ytlolnpilpdkbkaa

namespace Go.Proofs.Ytlolnpilpdkbkaa
open Go.RowKit Go.Maps
set_option linter.unusedSimpArgs false
set_option linter.unusedVariables false

theorem laidOutK : laidOutB Try.prog = true := by kernel_rfl
theorem rowK : (25 : TypeId) < Try.prog.types.size := of_decide_eq_true (by kernel_rfl)
theorem wideK : (match Try.prog.underlying 25 with | some (.array _ _) | some (.struct _) => true | _ => false) = true := by kernel_rfl
theorem keyAtK : Try.prog.keyTypeAt 2 25 = true := by kernel_rfl
set_option maxRecDepth 100000 in
theorem lawK : Keyed Try.prog 25 := Keyed.of_law (deep_law_laid laidOutK (m := 2) (by omega) rowK keyAtK wideK)
theorem mapK : Try.prog.underlying 80 = some (.map 25 83) := by kernel_rfl
theorem zeroU (w : World) : (zeroValue 83).run Try.prog w = .ok (.agg #[]) w := by kernel_rfl
/-- A set that lies at s, its entries in m: as many as n, read as D. -/
def SetAt (w : World) (s m n : Nat) (D : DataW Unit) : Prop := w.heap[s]? = some (.cells #[.map (some m)] 82 (0, 0)) ∧ w.ownsMap Try.prog 25 (unitElem (H := Unit)) m n D
theorem SetAt.below {w w' : World} {s m n B : Nat} {D : DataW Unit} (h : SetAt w s m n D) (hb : Below B w w') (hB : w.heap.size ≤ B) : SetAt w' s m n D := by
  obtain ⟨h1, es, clock, h2, h3⟩ := h
  have l1 : s < w.heap.size := (Array.getElem?_eq_some_iff.1 h1).1
  have l2 : m < w.heap.size := (Array.getElem?_eq_some_iff.1 h2).1
  exact ⟨(hb.block s (by omega)).trans h1, es, clock, (hb.block m (by omega)).trans h2, h3⟩
set_option maxRecDepth 100000 in
set_option maxHeartbeats 1000000 in
theorem there_any (w : World) (s m n : Nat) (D : DataW Unit) (h : SetAt w s m n D) :
    Calls Try.prog 36 #[.pointer (some ⟨s, 0, none⟩)] w fun e w' => e = .returned (.bool true) ∧ w' = w := by
  have c := Lib.hid h.1
  have c1 : w.cell? ⟨s, 0, none⟩ = some (.map (some m)) := by unfold World.cell?; simp [c.out]
  have hq := fun w => run_neq_map_nil (P := Try.prog) w 80 25 83 (some m) mapK
  clear h
  go_enter Try.func36, Try.ntmps36
  go_wp2_with fail
  go_ret
  exact ⟨rfl, rfl⟩
def HasS (w : World) (g s m n : Nat) (kv : Array Value) (D : DataW Unit) (W : World) : Prop :=
  Below w.heap.size w W ∧ W.heap[g]? = some (.cells kv 25 (0, 0)) ∧ SetAt W s m n D
section
variable {w W : World} {g s m n : Nat} {kv : Array Value} {D : DataW Unit}
theorem HasS.bel (h : HasS w g s m n kv D W) : Below w.heap.size w W := h.1
theorem HasS.key (h : HasS w g s m n kv D W) : W.heap[g]? = some (.cells kv 25 (0, 0)) := h.2.1
theorem HasS.cel (h : HasS w g s m n kv D W) : W.cell? ⟨s, 0, none⟩ = some (.map (some m)) := by unfold World.cell?; simp [h.2.2.1]
theorem HasS.own (h : HasS w g s m n kv D W) : W.ownsMap Try.prog 25 (unitElem (H := Unit)) m n D := h.2.2.2
theorem HasS.alloc (h : HasS w g s m n kv D W) (o : Obj) : HasS w g s m n kv D (W.alloc o) :=
  ⟨h.1.alloc h.1.size _, (heap_alloc_old W o (Array.getElem?_eq_some_iff.1 h.2.1).1).trans h.2.1, h.2.2.below ((Below.refl _ _).alloc (Nat.le_refl _) _) (Nat.le_refl _)⟩
end
theorem yieldsIf_load_row {P : Program} {ops : Array Oper} {S : World → Prop} {op : Oper} {a : Act} (hw : Region.wanted op (yielded ops a.tmps) = true) (ty : TypeId) (x : Operand) (ho : op.op = .load ty x)
    (g : Nat) (hx : a.eval x = .pointer (some ⟨g, 0, none⟩)) (t : TypeId) (cs : Array Value) (fr : Nat × Nat) (d : TypeDesc) (hg : ∀ W, S W → W.heap[g]? = some (.cells cs t fr))
    (hu : P.underlying ty = some d) (hd : (match d with | .struct _ | .array _ _ => true | _ => false) = true) (hi : (P.info? ty).map (·.size) = some cs.size) : YieldsIf P ops S op (.agg cs) a :=
  .inl ⟨hw, fun w hw' => by
    unfold execOp
    simp only [ho, hx, Instr.loadAt, Instr.sureAddr, Sem.run_bind, Sem.run_pure, Result.andThen_ok, run_loadVar_row w g t ty cs fr d (hg w hw') hu hd hi]⟩
theorem tk {P : Program} {md : Region.Mode} {ops : Array Oper} {Q : Exit → Act → World → Prop} {S : World → Prop} {i d : Nat} {oi : Oper} {v : Value} {fuel : Nat} {listed : Array Bool} {t : Array Value} {df : List Deferred} {w : World} (hi : ops[i]? = some oi) (hd : oi.dst = some d)
    (hy : YieldsIf P ops S oi v ⟨t, df⟩) (hS : S w) (h : wpAnyH P md ops Q S fuel (listed.setIfInBounds i true) ⟨t.setIfInBounds d v, df⟩ w)
    (hs : Region.noSelect ops = true := by kernel_rfl) (hf : Region.free md ops listed i = true := by kernel_rfl) (hr : (Region.ready md ops listed).contains i = true := by kernel_rfl)
    (hQ : ∀ c a w, Q (.panic c) (a.put oi.dst v) w → Q (.panic c) a w := by exact fun _ _ _ h => h) : wpAnyH P md ops Q S (fuel + 1) listed ⟨t, df⟩ w := by
  refine wpAnyH_take hi hs hf hr hQ hy hS ?_
  rw [hd]
  exact h
set_option maxRecDepth 100000 in
set_option maxHeartbeats 1000000 in
theorem setHas_any (w : World) (s m n : Nat) (D : DataW Unit) (h : SetAt w s m n D) (x : List Nat) (hx : x.length = 32) (kl : Lit) (hkey : keyOf Try.prog 25 (.agg (u8s x).toArray) = some kl) :
    Calls Try.prog 16 #[.pointer (some ⟨s, 0, none⟩), .agg (u8s x).toArray] w fun e w' => e = .returned (.bool (Maps.has D kl)) ∧ Below w.heap.size w w' := by
  obtain ⟨g, hg⟩ : ∃ g, w.heap.size = g := ⟨_, rfl⟩
  obtain ⟨w1, hw1⟩ : ∃ w1, w.alloc (.cells (u8s x).toArray 25) = w1 := ⟨_, rfl⟩
  have hB : Hid (Below w.heap.size w w1) := Lib.hid (by rw [← hw1]; exact (Below.refl _ _).alloc (Nat.le_refl _) _)
  have h1 : SetAt w1 s m n D := h.below hB.out (Nat.le_refl _)
  have hT := Lib.hid (there_any w1 s m n D h1)
  have hz := zeroU
  have hi32 : Hid ((Try.prog.info? 25).map (·.size) = some 32) := Lib.hid (by kernel_rfl)
  have hs32 : Hid ((u8s x).toArray.size = 32) := Lib.hid (by simp [u8s, hx])
  have hk1 : w1.heap[g]? = some (.cells (u8s x).toArray 25 (0, 0)) := by rw [← hw1, ← hg]; exact heap_alloc_new w _
  obtain ⟨kv, hkv⟩ : ∃ kv, (u8s x).toArray = kv := ⟨_, rfl⟩
  rw [hkv] at hkey hk1 hs32 hw1 ⊢
  obtain ⟨B, hB0⟩ : ∃ B, Maps.has D kl = B := ⟨_, rfl⟩
  rw [hB0]
  have hlk : Hid (∀ W : World, W.ownsMap Try.prog 25 (unitElem (H := Unit)) m n D → (Instr.lookup 80 (.map (some m)) (.agg kv) true).run Try.prog W = .ok (.tuple #[.agg #[], .bool B]) W) := Lib.hid (fun W hW => by
    rw [← hB0]
    obtain ⟨v, ps, h1, h2⟩ := hW.look_ok lawK mapK (zeroU W) (unitElem_mk (H := Unit)) hkey
    obtain ⟨rfl, _⟩ := unitElem_inv h2
    exact h1)
  have hd0 : Hid (HasS w1 g s m n kv D w1) := Lib.hid ⟨Below.refl _ _, hk1, h1⟩
  have hbel : ∀ {W : World}, Below w1.heap.size w1 W → Below w.heap.size w W := fun h => hB.out.trans (h.mono hB.out.size)
  clear hB0 h h1 hk1
  go_enter Try.func16, Try.ntmps16
  go_wp2_with (first
    | (go_at_call 36; first | rw [hw1] | skip; refine hT.out.mono ?_; rintro e w5 ⟨rfl, h5⟩; have h6 := h5.symm; clear h5; subst h6; clear hT))
  have hd : Hid (HasS w1 g s m n kv D w1.drew) := Lib.hid ⟨below_drewN hd0.out.1 1, hd0.out.2.1, hd0.out.2.2.1, hd0.out.2.2.2⟩
  refine wp_region_held (S := HasS w1 g s m n kv D) (by kernel_rfl) ?_
  change wpAnyH _ _ _ _ _ _ _ _ (World.drew _)
  refine tk (i := 0) (d := 11) (v := (.pointer (some ⟨s, 0, none⟩))) rfl rfl (Or.inl ⟨by rfl, by intro W hW; clear hW; go_simp⟩) hd.out ?_
  simp only [List.setIfInBounds_toArray, List.set_cons_zero, List.set_cons_succ]
  refine tk (i := 1) (d := 12) (v := (.pointer (some ⟨s, 0, none⟩))) rfl rfl (Or.inl ⟨by rfl, by intro W hW; clear hW; go_simp⟩) hd.out ?_
  simp only [List.setIfInBounds_toArray, List.set_cons_zero, List.set_cons_succ]
  refine tk (i := 2) (d := 13) (v := (.pointer (some ⟨s, 0, none⟩))) rfl rfl (Or.inl ⟨by rfl, by intro W hW; clear hW; go_simp⟩) hd.out ?_
  simp only [List.setIfInBounds_toArray, List.set_cons_zero, List.set_cons_succ]
  refine tk (i := 3) (d := 14) (v := (.map (some m))) rfl rfl (Or.inl ⟨by rfl, by intro W hW; have c := hW.cel; clear hW; go_simp⟩) hd.out ?_
  simp only [List.setIfInBounds_toArray, List.set_cons_zero, List.set_cons_succ]
  refine tk (i := 4) (d := 15) (v := (.agg kv)) rfl rfl (yieldsIf_load_row (by rfl) 25 _ rfl g rfl 25 kv (0, 0) _ (fun W hW => hW.key) Try.underlying25 rfl (by rw [hs32.out]; exact hi32.out)) hd.out ?_
  simp only [List.setIfInBounds_toArray, List.set_cons_zero, List.set_cons_succ]
  refine tk (i := 5) (d := 16) (v := (.tuple #[.agg #[], .bool B])) rfl rfl (Or.inl ⟨by rfl, by intro W hW; have e := hlk.out W hW.own; clear hW; go_simp⟩) hd.out ?_
  simp only [List.setIfInBounds_toArray, List.set_cons_zero, List.set_cons_succ]
  refine tk (i := 6) (d := 10) (v := (.tuple #[.agg #[], .bool B])) rfl rfl (Or.inl ⟨by rfl, by intro W hW; clear hW; go_simp⟩) hd.out ?_
  simp only [List.setIfInBounds_toArray, List.set_cons_zero, List.set_cons_succ]
  refine tk (i := 7) (d := 17) (v := (.agg #[])) rfl rfl (Or.inl ⟨by rfl, by intro W hW; clear hW; go_simp⟩) hd.out ?_
  simp only [List.setIfInBounds_toArray, List.set_cons_zero, List.set_cons_succ]
  refine tk (i := 8) (d := 18) (v := (.bool B)) rfl rfl (Or.inl ⟨by rfl, by intro W hW; clear hW; go_simp⟩) hd.out ?_
  simp only [List.setIfInBounds_toArray, List.set_cons_zero, List.set_cons_succ]
  refine wpAnyH_ready (rs := [9]) (by kernel_rfl) (by simp) ?_
  refine AllReadyH.cons rfl (fun K hK => ?_) AllReadyH.nil
  go_simp
  have hd1 := Lib.hid (hd.out.alloc (.cells #[] 83))
  refine hK.out _ _ hd1.out (fun _ => ?_)
  clear hK K
  refine wpAnyH_ready (rs := [10]) (by kernel_rfl) (by simp) ?_
  refine AllReadyH.cons rfl (fun K hK => ?_) AllReadyH.nil
  go_simp
  refine hK.out _ _ hd1.out (fun _ => ?_)
  clear hK K
  refine tk (i := 11) (d := 6) (v := (.bool B)) rfl rfl (Or.inl ⟨by rfl, by intro W hW; clear hW; go_simp⟩) hd1.out ?_
  simp only [List.setIfInBounds_toArray, List.set_cons_zero, List.set_cons_succ]
  refine wpAnyH_done (by kernel_rfl) ?_ _
  have hb := Lib.hid hd1.out.bel
  go_wp2_with fail
  go_ret
  exact ⟨rfl, hbel hd1.out.bel⟩
end Go.Proofs.Ytlolnpilpdkbkaa

namespace Go.Proofs.Ytlolnpilpdkbkaa
open Go.RowKit Go.Maps
set_option linter.unusedSimpArgs false
set_option linter.unusedVariables false

/-- A list of keys: what each reads as. -/
def KeysAt (w : World) (A : Option Addr) (ls : List Lit) : Prop :=
  ∀ k l, ls[k]? = some l → ∃ b off x, A = some ⟨b, off, none⟩ ∧ b < w.heap.size ∧ x.length = 32 ∧ w.rangeAt b (off + k * 32) (u8s x) ∧ keyOf Try.prog 25 (.agg (u8s x).toArray) = some l
def NewS (g s m : Nat) (kv : Array Value) (W : World) : Prop := W.heap[g]? = some (.cells kv 25 (0, 0)) ∧ W.heap[s]? = some (.cells #[.map (some m)] 82 (0, 0))
section
variable {W : World} {g s m : Nat} {kv : Array Value}
theorem NewS.key (h : NewS g s m kv W) : W.heap[g]? = some (.cells kv 25 (0, 0)) := h.1
theorem NewS.cel (h : NewS g s m kv W) : W.cell? ⟨s, 0, none⟩ = some (.map (some m)) := by unfold World.cell?; simp [h.2]
theorem NewS.grown {W' : World} (h : NewS g s m kv W) (hg : W.grownBy W' (some m)) (h1 : s ≠ m) (h2 : g ≠ m) : NewS g s m kv W' :=
  ⟨(hg.block g (Array.getElem?_eq_some_iff.1 h.1).1 (by simpa using h2)).trans h.1, (hg.block s (Array.getElem?_eq_some_iff.1 h.2).1 (by simpa using h1)).trans h.2⟩
end
def NewI (w : World) (ls : List Lit) (k : Nat) (wr : World) : Prop := SetAt wr (w.heap.size + 1) w.heap.size k (setOf (.agg []) (ls.take k)) ∧ Below w.heap.size w wr
def NewP (w : World) (ls : List Lit) (e : Ending) (w' : World) : Prop := e = .returned (.pointer (some ⟨w.heap.size + 1, 0, none⟩)) ∧ NewI w ls ls.length w'
theorem NewI.upd {w wr w6 W : World} {ls : List Lit} {k : Nat} {l : Lit} (h : NewI w ls k wr) (hl : ls[k]? = some l) (hb : Below wr.heap.size wr W)
    (ho : w6.ownsMap Try.prog 25 (unitElem (H := Unit)) w.heap.size (k + 1) ((setOf (.agg []) (ls.take k)).put l (.agg []))) (hg : W.grownBy w6 (some w.heap.size)) : NewI w ls (k + 1) w6 := by
  obtain ⟨⟨h1, h2⟩, h3⟩ := h
  have l1 := (Array.getElem?_eq_some_iff.1 h1).1
  refine ⟨⟨(hg.block _ (Nat.lt_of_lt_of_le l1 hb.size) (by simp)).trans ((hb.block _ l1).trans h1), ?_⟩, ?_⟩
  · rw [List.take_add_one, hl]
    simp only [Option.toList_some]
    rw [setOf_snoc]
    exact ho
  · have h4 : Below w.heap.size w W := h3.trans (hb.mono h3.size)
    exact h4.grown hg h4.size (fun j hj => by cases hj; exact Nat.le_refl _)
set_option maxRecDepth 100000 in
set_option maxHeartbeats 4000000 in
theorem newSet_any (w : World) (A : Option Addr) (ls : List Lit) (n c : Nat) (hn : ls.length = n) (hL : n < 140737488355328) (hA : KeysAt w A ls) :
    Calls Try.prog 10 #[.slice A n c] w (NewP w ls) := by
  have hn' := Lib.hid hn
  have hA' := Lib.hid hA
  have hi32 : Hid ((Try.prog.info? 25).map (·.size) = some 32) := Lib.hid (by kernel_rfl)
  have hmm := @run_makeMap Try.prog
  have hz := zeroU
  have hzk := zeroKy
  have h0 : Hid (NewI w ls 0 ((w.alloc (.map #[] 0)).alloc (.cells #[.map (some w.heap.size)] 82))) := Lib.hid
    ⟨⟨by have := heap_alloc_new (w.alloc (.map #[] 0)) (.cells #[.map (some w.heap.size)] 82); simpa using this, by simpa [setOf] using (World.ownsMap_made w Try.prog 25 (unitElem (H := Unit))).alloc _⟩, ((Below.refl _ _).alloc (Nat.le_refl _) _).alloc (by simp) _⟩
  clear hn hA
  go_enter Try.func10, Try.ntmps10
  go_wp2_with fail
  generalize ((w.alloc (.map #[] 0)).alloc (.cells #[.map (some w.heap.size)] 82)) = w2 at h0 ⊢
  obtain ⟨S0, hS0⟩ : ∃ S0, w.heap.size + 1 = S0 := ⟨_, rfl⟩
  rw [hS0]
  have hS0' := Lib.hid hS0
  clear hS0
  go_loopw [11] (fun i wr => ∃ k : Nat, k ≤ n ∧ i = .int .i64 k ∧ Hid (NewI w ls k wr)) (fun i _ => n - (intOf i).toNat)
  case atStart => exact ⟨0, by omega, rfl, h0⟩
  case round =>
    clear h0
    obtain ⟨k, hk, rfl, hI⟩ := hrel
    by_cases hlt : k < n
    · obtain ⟨l, hl⟩ : ∃ l, ls[k]? = some l := ⟨_, List.getElem?_eq_getElem (by rw [hn'.out]; exact hlt)⟩
      obtain ⟨b, off, x, rfl, hbl, hx, hrg0, hkey⟩ := hA'.out k l hl
      have hrg : Hid (wr.rangeAt b (off + k * 32) (u8s x)) := Lib.hid (fun j v hv => (hI.out.2.cell (by exact hbl)).trans (hrg0 j v hv))
      have hs32 : Hid ((u8s x).toArray.size = 32) := Lib.hid (by simp [u8s, hx])
      have hx32 : Hid ((u8s x).length = 32) := Lib.hid (by simp [u8s, hx])
      have hz32 : Hid ((u8s (zeros 32)).toArray.size = (u8s x).toArray.size) := Lib.hid (by simp [u8s, zeros, hx])
      have hone : Hid ((u8s x).toArray.all (·.oneCell') = true) := Lib.hid (all_oneCell_toArray u8s_one)
      have hl' := Lib.hid hl
      have hkey' := Lib.hid hkey
      clear hl hx hrg0 hkey
      go_wp2_with (first
        | (refine wpList_load_mid rfl 25 _ rfl b (off + k * 32) rfl (u8s x) _ hrg.out Try.underlying25 rfl (by rw [hx32.out]; exact hi32.out) ?_)
        | (refine wpList_store_row rfl 25 _ _ rfl wr.heap.size (u8s x).toArray rfl rfl 25 _ (heap_alloc_new wr _) (by rw [hs32.out]; exact hi32.out) hz32.out hone.out ?_
           have hk5 := Lib.hid (setRow_heap _ wr.heap.size _ (u8s x).toArray 25 _ (heap_alloc_new wr (.cells (u8s (zeros 32)).toArray 25)))
           have hb5 : Hid (Below wr.heap.size wr ((wr.alloc (.cells (u8s (zeros 32)).toArray 25)).setRow wr.heap.size (u8s x).toArray)) := Lib.hid (setRow_below ((Below.refl _ _).alloc (Nat.le_refl _) _) (Nat.le_refl _) _)
           generalize ((wr.alloc (.cells (u8s (zeros 32)).toArray 25)).setRow wr.heap.size (u8s x).toArray) = w5 at hk5 hb5 ⊢
           have hNL : Hid (w.heap.size < wr.heap.size) := Lib.hid hI.out.1.2.lt
           have hS5 : Hid (SetAt w5 S0 w.heap.size k (setOf (.agg []) (ls.take k))) := Lib.hid (by rw [← hS0'.out]; exact hI.out.1.below hb5.out (Nat.le_refl _))
           have hfin : Hid (∀ w6, w6.ownsMap Try.prog 25 (unitElem (H := Unit)) w.heap.size (k + 1) ((setOf (.agg []) (ls.take k)).put l (.agg [])) → w5.drew.grownBy w6 (some w.heap.size) → NewI w ls (k + 1) w6) := Lib.hid (fun w6 a b => hI.out.upd hl'.out (below_drewN hb5.out 1) a b)
           have hnm : Hid (wr.heap.size ≠ w.heap.size) := Lib.hid (by have := hNL.out; omega)
           generalize wr.heap.size = NL at hk5 hnm ⊢))
      have hsm : Hid (S0 ≠ w.heap.size) := Lib.hid (by have := hS0'.out; omega)
      have hd : Hid (NewS NL S0 w.heap.size (u8s x).toArray w5.drew) := Lib.hid ⟨hk5.out, hS5.out.1⟩
      have upd := Lib.hid (World.ownsMap.update (w := w5.drew) (val := .agg #[]) hS5.out.2 lawK mapK (by unfold maxLen; omega) hkey'.out (unitElem_mk (H := Unit)))
      refine wp_region_held (S := NewS NL S0 w.heap.size (u8s x).toArray) (by kernel_rfl) ?_
      change wpAnyH _ _ _ _ _ _ _ _ (World.drew _)
      refine tk (i := 0) (d := 15) (v := (.pointer (some ⟨S0, 0, none⟩))) rfl rfl (Or.inl ⟨by rfl, by intro W hW; clear hW; go_simp⟩) hd.out ?_
      simp only [List.setIfInBounds_toArray, List.set_cons_zero, List.set_cons_succ]
      refine tk (i := 1) (d := 16) (v := (.pointer (some ⟨S0, 0, none⟩))) rfl rfl (Or.inl ⟨by rfl, by intro W hW; clear hW; go_simp⟩) hd.out ?_
      simp only [List.setIfInBounds_toArray, List.set_cons_zero, List.set_cons_succ]
      refine tk (i := 2) (d := 17) (v := (.pointer (some ⟨S0, 0, none⟩))) rfl rfl (Or.inl ⟨by rfl, by intro W hW; clear hW; go_simp⟩) hd.out ?_
      simp only [List.setIfInBounds_toArray, List.set_cons_zero, List.set_cons_succ]
      refine tk (i := 3) (d := 18) (v := (.map (some w.heap.size))) rfl rfl (Or.inl ⟨by rfl, by intro W hW; have c := hW.cel; clear hW; go_simp⟩) hd.out ?_
      simp only [List.setIfInBounds_toArray, List.set_cons_zero, List.set_cons_succ]
      refine tk (i := 4) (d := 19) (v := (.agg (u8s x).toArray)) rfl rfl (yieldsIf_load_row (by rfl) 25 _ rfl NL rfl 25 (u8s x).toArray (0, 0) _ (fun W hW => hW.key) Try.underlying25 rfl (by rw [hs32.out]; exact hi32.out)) hd.out ?_
      simp only [List.setIfInBounds_toArray, List.set_cons_zero, List.set_cons_succ]
      refine tk (i := 5) (d := 20) (v := (.agg #[])) rfl rfl (Or.inl ⟨by rfl, by intro W hW; clear hW; go_simp⟩) hd.out ?_
      simp only [List.setIfInBounds_toArray, List.set_cons_zero, List.set_cons_succ]
      refine wpAnyH_ready (rs := [6]) (by kernel_rfl) (by simp) ?_
      refine AllReadyH.cons rfl (fun K hK => ?_) AllReadyH.nil
      obtain ⟨w6, hrun, hown6, hgr6⟩ := upd.out
      go_simp
      clear hrun
      have hd1 := Lib.hid (hd.out.grown hgr6 hsm.out hnm.out)
      refine hK.out _ _ hd1.out (fun _ => ?_)
      clear hK K
      refine wpAnyH_done (by kernel_rfl) ?_ _
      have hI6 := Lib.hid (hfin.out _ hown6 hgr6)
      clear hown6 hgr6
      go_wp2_with fail
      go_roundw
      case rel => exact ⟨k + 1, by omega, by go_num, hI6⟩
      case measure => simp [intOf]; omega
    · obtain rfl : k = n := by omega
      go_wp2_with fail
      go_ret
      exact ⟨by rw [← hS0'.out]; rfl, by rw [hn'.out]; exact hI.out⟩
end Go.Proofs.Ytlolnpilpdkbkaa

namespace Go.Proofs.Ytlolnpilpdkbkaa
open Go.RowKit Go.Maps
set_option linter.unusedSimpArgs false
set_option linter.unusedVariables false

theorem mapM_all {α β : Type} {f : α → Option β} : ∀ (L : List α), (∀ i ∈ L, ∃ y, f i = some y) → ∃ ys, L.mapM f = some ys
  | [], _ => ⟨[], rfl⟩
  | i :: L, h => by
    obtain ⟨y, hy⟩ := h i (by simp)
    obtain ⟨ys, hys⟩ := mapM_all L fun j hj => h j (by simp [hj])
    exact ⟨y :: ys, by simp [List.mapM_cons, hy, hys]⟩
theorem mapM_each {α β : Type} {f : α → Option β} : ∀ (L : List α) (ys : List β), L.mapM f = some ys → ∀ i ∈ L, ∃ y, f i = some y
  | [], _, _, i, hi => by cases hi
  | a :: L, ys, h, i, hi => by
    rw [List.mapM_cons] at h
    simp only [bind, Option.bind_eq_some_iff, pure, Option.some.injEq] at h
    obtain ⟨y, hy, ys', hys, _⟩ := h
    rcases List.mem_cons.1 hi with rfl | hi
    · exact ⟨y, hy⟩
    · exact mapM_each L ys' hys i hi
theorem all_u8s : ∀ cs : List Value, (∀ i, i < cs.length → ∃ b : Nat, cs[i]? = some (.int .u8 (b : Int)) ∧ b < 256) → ∃ l : List Nat, cs = u8s l ∧ ∀ b ∈ l, b < 256
  | [], _ => ⟨[], rfl, by simp⟩
  | c :: cs, h => by
    obtain ⟨b, hb, hlt⟩ := h 0 (by simp)
    obtain ⟨l, rfl, hl⟩ := all_u8s cs fun i hi => by simpa using h (i + 1) (by simpa using hi)
    simp only [List.getElem?_cons_zero, Option.some.injEq] at hb
    refine ⟨b :: l, by rw [hb]; rfl, ?_⟩
    intro x hx
    rcases List.mem_cons.1 hx with rfl | hx
    · exact hlt
    · exact hl x hx
theorem keyTypeK : Try.prog.keyType 25 = true := by kernel_rfl
theorem cellsK : Try.prog.cellsOf 25 = 32 := by kernel_rfl
theorem cellsU : Try.prog.cellsOf 5 = 1 := by kernel_rfl
theorem typesK : ∃ m, Try.prog.types.size = m + 1 := Nat.exists_eq_succ_of_ne_zero (Nat.ne_of_gt (Nat.lt_of_le_of_lt (Nat.zero_le _) rowK))
theorem keyOf_u8s (x : List Nat) (hx : x.length = 32) (hb : ∀ b ∈ x, b < 256) : ∃ l, keyOf Try.prog 25 (.agg (u8s x).toArray) = some l := by
  obtain ⟨m, hm⟩ := typesK
  unfold keyOf
  simp only [Try.underlying25]
  rw [if_pos (by simp [keyTypeK, Value.formed, Try.underlying25, cellsK, u8s_length, hx])]
  unfold Program.keyLits
  simp only [Try.underlying25, Value.cells]
  rw [if_pos (by simp [cellsK, u8s_length, hx])]
  obtain ⟨ys, hys⟩ := mapM_all (f := fun i => Try.prog.keyLits Try.prog.types.size 5 (((u8s x).toArray.toList.drop (i * Try.prog.cellsOf 5)).take (Try.prog.cellsOf 5))) (List.range 32) (fun i hi => by
    have hi := List.mem_range.1 hi
    have hlt := hb _ (List.getElem_mem (show i < x.length by omega))
    refine ⟨[.int .u8 (x[i] : Nat)], ?_⟩
    rw [cellsU, Nat.mul_one, hm, List.drop_eq_getElem_cons (by simp [u8s_length, hx, hi])]
    simp only [List.take_succ_cons, List.take_zero]
    unfold Program.keyLits
    simp only [Try.underlying5]
    have e : ((u8s x).toArray.toList)[i]'(by simp [u8s_length, hx, hi]) = .int .u8 ((x[i]'(by omega) : Nat) : Int) := by simp [u8s]
    rw [e]
    have hwf : (Lit.int .u8 ((x[i]'(by omega) : Nat) : Int)).wf = true := by
      simp [Lit.wf, IntKind.min, IntKind.max, IntKind.signed, IntKind.bits]
      omega
    simp [hwf])
  rw [hys]
  exact ⟨_, rfl⟩
theorem keyOf_inv {v : Value} {l : Lit} (h : keyOf Try.prog 25 v = some l) : ∃ x : List Nat, v = .agg (u8s x).toArray ∧ x.length = 32 ∧ ∀ b ∈ x, b < 256 := by
  obtain ⟨m, hm⟩ := typesK
  unfold keyOf at h
  simp only [Try.underlying25] at h
  split at h
  · rename_i hc
    rw [Bool.and_eq_true] at hc
    cases v with
    | agg cs =>
      have hs : cs.size = 32 := by
        have := hc.2
        simpa [Value.formed, Try.underlying25, cellsK] using this
      rw [Option.map_eq_some_iff] at h
      obtain ⟨ls, h1, _⟩ := h
      unfold Program.keyLits at h1
      simp only [Try.underlying25, Value.cells] at h1
      rw [if_pos (by simp [cellsK, hs])] at h1
      rw [Option.map_eq_some_iff] at h1
      obtain ⟨ys, h2, _⟩ := h1
      have h3 := mapM_each _ _ h2
      obtain ⟨x, hx, hb⟩ := all_u8s cs.toList (fun i hi => by
        have hi32 : i < 32 := by simpa [hs] using hi
        obtain ⟨y, hy⟩ := h3 i (List.mem_range.2 hi32)
        rw [cellsU, Nat.mul_one, hm, List.drop_eq_getElem_cons hi] at hy
        simp only [List.take_succ_cons, List.take_zero] at hy
        unfold Program.keyLits at hy
        simp only [Try.underlying5] at hy
        generalize hcv : cs.toList[i] = cv at hy
        cases cv with
        | int q n0 =>
          simp at hy
          obtain ⟨⟨rfl, hw⟩, _⟩ := hy
          simp [Lit.wf, IntKind.min, IntKind.max, IntKind.signed, IntKind.bits] at hw
          exact ⟨n0.toNat, by rw [List.getElem?_eq_getElem hi, hcv, Int.toNat_of_nonneg hw.1], by omega⟩
        | _ => simp at hy)
      refine ⟨x, ?_, ?_, hb⟩
      · rw [← hx]
      · have := congrArg List.length hx
        rw [u8s_length, Array.length_toList, hs] at this
        exact this.symm
    | _ => simp [Value.formed, Try.underlying25] at hc
  · cases h
end Go.Proofs.Ytlolnpilpdkbkaa

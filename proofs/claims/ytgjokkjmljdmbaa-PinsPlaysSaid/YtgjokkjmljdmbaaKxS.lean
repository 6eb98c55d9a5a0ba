/- Sets of keys: there, Len, Has. -/
import Derived.Test.YtgjokkjmljdmbaaKeyM
import Derived.Laws.Tables
import Derived.Maps.OwnSet
import Derived.DeepKeys4
import Derived.WideKeyArr
import Derived.BigQuiet
import Derived.Deep.RegionHeld3
import Derived.WalkSpells
namespace Go.Proofs.Ytgjokkjmljdmbaa
open Go.RowKit Go.Maps
set_option linter.unusedSimpArgs false
set_option linter.unusedVariables false

theorem laidOutK : laidOutB Try.prog = true := by kernel_rfl
theorem rowK : (29 : TypeId) < Try.prog.types.size := of_decide_eq_true (by kernel_rfl)
theorem wideK : (match Try.prog.underlying 29 with | some (.array _ _) | some (.struct _) => true | _ => false) = true := by kernel_rfl
theorem keyAtK : Try.prog.keyTypeAt 2 29 = true := by kernel_rfl
set_option maxRecDepth 100000 in
theorem lawK : Keyed Try.prog 29 := Keyed.of_law (deep_law_laid laidOutK (m := 2) (by omega) rowK keyAtK wideK)
theorem mapK : Try.prog.underlying 72 = some (.map 29 75) := by kernel_rfl
theorem zeroU (w : World) : (zeroValue 75).run Try.prog w = .ok (.agg #[]) w := by kernel_rfl
/-- A set that lies at s, its entries in m: as many as n, read as D. -/
def SetAt (w : World) (s m n : Nat) (D : DataW Unit) : Prop := w.heap[s]? = some (.cells #[.map (some m)] 74 (0, 0)) ∧ w.ownsMap Try.prog 29 (unitElem (H := Unit)) m n D
theorem SetAt.below {w w' : World} {s m n B : Nat} {D : DataW Unit} (h : SetAt w s m n D) (hb : Below B w w') (hB : w.heap.size ≤ B) : SetAt w' s m n D := by
  obtain ⟨h1, es, clock, h2, h3⟩ := h
  have l1 : s < w.heap.size := (Array.getElem?_eq_some_iff.1 h1).1
  have l2 : m < w.heap.size := (Array.getElem?_eq_some_iff.1 h2).1
  exact ⟨(hb.block s (by omega)).trans h1, es, clock, (hb.block m (by omega)).trans h2, h3⟩
set_option maxRecDepth 100000 in
set_option maxHeartbeats 1000000 in
theorem there_any (w : World) (s m n : Nat) (D : DataW Unit) (h : SetAt w s m n D) :
    Calls Try.prog 35 #[.pointer (some ⟨s, 0, none⟩)] w fun e w' => e = .returned (.bool true) ∧ w' = w := by
  have c := Lib.hid h.1
  have c1 : w.cell? ⟨s, 0, none⟩ = some (.map (some m)) := by unfold World.cell?; simp [c.out]
  have hq := fun w => run_neq_map_nil (P := Try.prog) w 72 29 75 (some m) mapK
  clear h
  go_enter Try.func35, Try.ntmps35
  go_wp2_with fail
  go_ret
  exact ⟨rfl, rfl⟩
def HasS (w : World) (g s m n : Nat) (kv : Array Value) (D : DataW Unit) (W : World) : Prop :=
  Below w.heap.size w W ∧ W.heap[g]? = some (.cells kv 29 (0, 0)) ∧ SetAt W s m n D
section
variable {w W : World} {g s m n : Nat} {kv : Array Value} {D : DataW Unit}
theorem HasS.bel (h : HasS w g s m n kv D W) : Below w.heap.size w W := h.1
theorem HasS.key (h : HasS w g s m n kv D W) : W.heap[g]? = some (.cells kv 29 (0, 0)) := h.2.1
theorem HasS.cel (h : HasS w g s m n kv D W) : W.cell? ⟨s, 0, none⟩ = some (.map (some m)) := by unfold World.cell?; simp [h.2.2.1]
theorem HasS.own (h : HasS w g s m n kv D W) : W.ownsMap Try.prog 29 (unitElem (H := Unit)) m n D := h.2.2.2
theorem HasS.alloc (h : HasS w g s m n kv D W) (o : Obj) : HasS w g s m n kv D (W.alloc o) :=
  ⟨h.1.alloc h.1.size _, (heap_alloc_old W o (Array.getElem?_eq_some_iff.1 h.2.1).1).trans h.2.1, h.2.2.below ((Below.refl _ _).alloc (Nat.le_refl _) _) (Nat.le_refl _)⟩
end
theorem yieldsIf_load_row {P : Program} {ops : Array Oper} {S : World → Prop} {op : Oper} {a : Act} (hw : Region.wanted op (yielded ops a.tmps) = true) (ty : TypeId) (x : Operand) (ho : op.op = .load ty x)
    (g : Nat) (hx : a.eval x = .pointer (some ⟨g, 0, none⟩)) (t : TypeId) (cs : Array Value) (fr : Nat × Nat) (d : TypeDesc) (hg : ∀ W, S W → W.heap[g]? = some (.cells cs t fr))
    (hu : P.underlying ty = some d) (hd : (match d with | .struct _ | .array _ _ => true | _ => false) = true) (hi : (P.info? ty).map (·.size) = some cs.size) : YieldsIf P ops S op (.agg cs) a :=
  .inl ⟨hw, fun w hw' => by
    unfold execOp
    simp only [ho, hx, Instr.loadAt, Instr.sureAddr, Sem.run_bind, Sem.run_pure, Result.andThen_ok, run_loadVar_row w g t ty cs fr d (hg w hw') hu hd hi]⟩
theorem tk {P : Program} {md : Region.Mode} {ops : Array Oper} {Q : Exit → Act → World → Prop} {S : World → Prop} {i d : Nat} {oi : Oper} {v : Value} {fuel : Nat} {listed : Array Bool} {t : Array Value} {df : List Deferred} {w : World} (hi : ops[i]? = some oi) (hd : oi.dst = some d)
    (hy : YieldsIf P ops S oi v ⟨t, df⟩) (hS : S w) (h : wpAnyH P md ops Q S fuel (listed.setIfInBounds i true) ⟨t.setIfInBounds d v, df⟩ w)
    (hs : Region.noSelect ops = true := by kernel_rfl) (hf : Region.free md ops listed i = true := by kernel_rfl) (hr : (Region.ready md ops listed).contains i = true := by kernel_rfl)
    (hQ : ∀ c a w, Q (.panic c) (a.put oi.dst v) w → Q (.panic c) a w := by exact fun _ _ _ h => h) : wpAnyH P md ops Q S (fuel + 1) listed ⟨t, df⟩ w := by
  refine wpAnyH_take hi hs hf hr hQ hy hS ?_
  rw [hd]
  exact h
set_option maxRecDepth 100000 in
set_option maxHeartbeats 1000000 in
theorem setHas_any (w : World) (s m n : Nat) (D : DataW Unit) (h : SetAt w s m n D) (x : List Nat) (hx : x.length = 32) (kl : Lit) (hkey : keyOf Try.prog 29 (.agg (u8s x).toArray) = some kl) :
    Calls Try.prog 22 #[.pointer (some ⟨s, 0, none⟩), .agg (u8s x).toArray] w fun e w' => e = .returned (.bool (Maps.has D kl)) ∧ Below w.heap.size w w' := by
  obtain ⟨g, hg⟩ : ∃ g, w.heap.size = g := ⟨_, rfl⟩
  obtain ⟨w1, hw1⟩ : ∃ w1, w.alloc (.cells (u8s x).toArray 29) = w1 := ⟨_, rfl⟩
  have hB : Hid (Below w.heap.size w w1) := Lib.hid (by rw [← hw1]; exact (Below.refl _ _).alloc (Nat.le_refl _) _)
  have h1 : SetAt w1 s m n D := h.below hB.out (Nat.le_refl _)
  have hT := Lib.hid (there_any w1 s m n D h1)
  have hz := zeroU
  have hi32 : Hid ((Try.prog.info? 29).map (·.size) = some 32) := Lib.hid (by kernel_rfl)
  have hs32 : Hid ((u8s x).toArray.size = 32) := Lib.hid (by simp [u8s, hx])
  have hk1 : w1.heap[g]? = some (.cells (u8s x).toArray 29 (0, 0)) := by rw [← hw1, ← hg]; exact heap_alloc_new w _
  obtain ⟨kv, hkv⟩ : ∃ kv, (u8s x).toArray = kv := ⟨_, rfl⟩
  rw [hkv] at hkey hk1 hs32 hw1 ⊢
  obtain ⟨B, hB0⟩ : ∃ B, Maps.has D kl = B := ⟨_, rfl⟩
  rw [hB0]
  have hlk : Hid (∀ W : World, W.ownsMap Try.prog 29 (unitElem (H := Unit)) m n D → (Instr.lookup 72 (.map (some m)) (.agg kv) true).run Try.prog W = .ok (.tuple #[.agg #[], .bool B]) W) := Lib.hid (fun W hW => by
    rw [← hB0]
    obtain ⟨v, ps, h1, h2⟩ := hW.look_ok lawK mapK (zeroU W) (unitElem_mk (H := Unit)) hkey
    obtain ⟨rfl, _⟩ := unitElem_inv h2
    exact h1)
  have hd0 : Hid (HasS w1 g s m n kv D w1) := Lib.hid ⟨Below.refl _ _, hk1, h1⟩
  have hbel : ∀ {W : World}, Below w1.heap.size w1 W → Below w.heap.size w W := fun h => hB.out.trans (h.mono hB.out.size)
  clear hB0 h h1 hk1
  go_enter Try.func22, Try.ntmps22
  go_wp2_with (first
    | (go_at_call 35; first | rw [hw1] | skip; refine hT.out.mono ?_; rintro e w5 ⟨rfl, h5⟩; have h6 := h5.symm; clear h5; subst h6; clear hT))
  have hd : Hid (HasS w1 g s m n kv D w1.drew) := Lib.hid ⟨below_drewN hd0.out.1 1, hd0.out.2.1, hd0.out.2.2.1, hd0.out.2.2.2⟩
  refine wp_region_held (S := HasS w1 g s m n kv D) (by kernel_rfl) ?_
  change wpAnyH _ _ _ _ _ _ _ _ (World.drew _)
  refine tk (i := 0) (d := 11) (v := (.pointer (some ⟨s, 0, none⟩))) rfl rfl (Or.inl ⟨by rfl, by intro W hW; clear hW; go_simp⟩) hd.out ?_
  simp only [List.setIfInBounds_toArray, List.set_cons_zero, List.set_cons_succ]
  refine tk (i := 1) (d := 12) (v := (.pointer (some ⟨s, 0, none⟩))) rfl rfl (Or.inl ⟨by rfl, by intro W hW; clear hW; go_simp⟩) hd.out ?_
  simp only [List.setIfInBounds_toArray, List.set_cons_zero, List.set_cons_succ]
  refine tk (i := 2) (d := 13) (v := (.pointer (some ⟨s, 0, none⟩))) rfl rfl (Or.inl ⟨by rfl, by intro W hW; clear hW; go_simp⟩) hd.out ?_
  simp only [List.setIfInBounds_toArray, List.set_cons_zero, List.set_cons_succ]
  refine tk (i := 3) (d := 14) (v := (.map (some m))) rfl rfl (Or.inl ⟨by rfl, by intro W hW; have c := hW.cel; clear hW; go_simp⟩) hd.out ?_
  simp only [List.setIfInBounds_toArray, List.set_cons_zero, List.set_cons_succ]
  refine tk (i := 4) (d := 15) (v := (.agg kv)) rfl rfl (yieldsIf_load_row (by rfl) 29 _ rfl g rfl 29 kv (0, 0) _ (fun W hW => hW.key) Try.underlying29 rfl (by rw [hs32.out]; exact hi32.out)) hd.out ?_
  simp only [List.setIfInBounds_toArray, List.set_cons_zero, List.set_cons_succ]
  refine tk (i := 5) (d := 16) (v := (.tuple #[.agg #[], .bool B])) rfl rfl (Or.inl ⟨by rfl, by intro W hW; have e := hlk.out W hW.own; clear hW; go_simp⟩) hd.out ?_
  simp only [List.setIfInBounds_toArray, List.set_cons_zero, List.set_cons_succ]
  refine tk (i := 6) (d := 10) (v := (.tuple #[.agg #[], .bool B])) rfl rfl (Or.inl ⟨by rfl, by intro W hW; clear hW; go_simp⟩) hd.out ?_
  simp only [List.setIfInBounds_toArray, List.set_cons_zero, List.set_cons_succ]
  refine tk (i := 7) (d := 17) (v := (.agg #[])) rfl rfl (Or.inl ⟨by rfl, by intro W hW; clear hW; go_simp⟩) hd.out ?_
  simp only [List.setIfInBounds_toArray, List.set_cons_zero, List.set_cons_succ]
  refine tk (i := 8) (d := 18) (v := (.bool B)) rfl rfl (Or.inl ⟨by rfl, by intro W hW; clear hW; go_simp⟩) hd.out ?_
  simp only [List.setIfInBounds_toArray, List.set_cons_zero, List.set_cons_succ]
  refine wpAnyH_ready (rs := [9]) (by kernel_rfl) (by simp) ?_
  refine AllReadyH.cons rfl (fun K hK => ?_) AllReadyH.nil
  go_simp
  have hd1 := Lib.hid (hd.out.alloc (.cells #[] 75))
  refine hK.out _ _ hd1.out (fun _ => ?_)
  clear hK K
  refine wpAnyH_ready (rs := [10]) (by kernel_rfl) (by simp) ?_
  refine AllReadyH.cons rfl (fun K hK => ?_) AllReadyH.nil
  go_simp
  refine hK.out _ _ hd1.out (fun _ => ?_)
  clear hK K
  refine tk (i := 11) (d := 6) (v := (.bool B)) rfl rfl (Or.inl ⟨by rfl, by intro W hW; clear hW; go_simp⟩) hd1.out ?_
  simp only [List.setIfInBounds_toArray, List.set_cons_zero, List.set_cons_succ]
  refine wpAnyH_done (by kernel_rfl) ?_ _
  have hb := Lib.hid hd1.out.bel
  go_wp2_with fail
  go_ret
  exact ⟨rfl, hbel hd1.out.bel⟩
end Go.Proofs.Ytgjokkjmljdmbaa

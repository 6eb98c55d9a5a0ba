/- Find: the key that digits begin; what it answers at digits that are none. -/
import Derived.Test.YtlolnpilpdkbkaaKyT
import Derived.Test.YtlolnpilpdkbkaaRfH
import Derived.Test.YtlolnpilpdkbkaaHexW
import Derived.Test.YtlolnpilpdkbkaaStrP
namespace Go.Proofs.Ytlolnpilpdkbkaa
open Go.RowKit Go.Maps Go.Shelf
set_option linter.unusedSimpArgs false
set_option linter.unusedVariables false
attribute [local go_sem] Oper.semAt_some

section
variable {P : Program} {ops : Array Oper} {rest : List Oper} {o : Oper} {a : Act} {w : World} {Q : Exit → Act → World → Prop}
/-- A literal. -/
theorem wpList_blF (hg : o.guard = none) (t : TypeId) (parts : Array (Nat × Operand)) (ho : o.op = .build t parts) (vs : Array (Nat × Value)) (hv : (parts.map fun (i, x) => (i, a.eval x)) = vs) (v : Value)
    (hr : ∀ w, (Instr.build t vs).run P w = .ok v w) (h : wpList P ops Q rest (a.put o.dst v) w) : wpList P ops Q (o :: rest) a w :=
  wpList_plain hg fun K hK => by
    unfold Oper.wp execOp
    simp only [ho, hv, Sem.run_bind, hr w, Result.andThen_ok, Sem.run_pure]
    exact hK _ _ h
end
theorem zeroKf (w : World) : (Instr.build 25 #[]).run Try.prog w = .ok (.agg (u8s (zeros 32)).toArray) w :=
  run_build w _ _ _ (by kernel_rfl)
/-- Whether a key's digits begin so. -/
def begK (p : List UInt8) (x : List Nat) : Bool := Lib.hasPrefix (hexL x) p
/-- What Find tells of those that begin so. -/
def findL : List (List Nat) → List Nat × Nat
  | [] => (zeros 32, 31)
  | [x] => (x, 0)
  | _ => (zeros 32, 32)
/-- What Find tells. -/
def findQ (ks : List (List Nat)) (p : List UInt8) : List Nat × Nat :=
  if 64 < p.length ∨ allDig p = false then (zeros 32, 30) else findL (ks.filter (begK p))
def FindP (w : World) (r : List Nat × Nat) (e : Ending) (w' : World) : Prop :=
  e = .returned (.tuple #[.agg (u8s r.1).toArray, .int .i64 r.2]) ∧ Below w.heap.size w w'
set_option maxRecDepth 100000 in
set_option maxHeartbeats 2000000 in
theorem find_bad (w : World) (v : Value) (p : ByteArray) (hp : p.size ≤ 9223372036854775807) (hbad : 64 < p.size ∨ allDig p.data.toList = false) :
    Calls Try.prog 19 #[v, .string p] w (FindP w (zeros 32, 30)) := by
  have hz := zeroKy
  have hbl := zeroKf
  have hi32 : Hid ((Try.prog.info? 25).map (·.size) = some 32) := Lib.hid (by kernel_rfl)
  have hs32 : Hid ((u8s (zeros 32)).toArray.size = 32) := Lib.hid (by simp [u8s, zeros])
  obtain ⟨w1, hw1⟩ : ∃ w1, w.alloc (.cells #[.string p] 9) = w1 := ⟨_, rfl⟩
  obtain ⟨w2, hw2⟩ : ∃ w2, w1.alloc (.cells (u8s (zeros 32)).toArray 25) = w2 := ⟨_, rfl⟩
  have hB1 : Below w.heap.size w w1 := by rw [← hw1]; exact (Below.refl _ _).alloc (Nat.le_refl _) _
  have hB : Hid (Below w.heap.size w w2) := Lib.hid (by rw [← hw2]; exact hB1.alloc hB1.size _)
  have hk : Hid (w2.heap[w1.heap.size]? = some (.cells (u8s (zeros 32)).toArray 25 (0, 0))) := Lib.hid (by rw [← hw2]; exact heap_alloc_new w1 _)
  have hst : w2.heap[w.heap.size]? = some (.cells #[.string p] 9 (0, 0)) := by
    rw [← hw2, heap_alloc_old _ _ (by rw [← hw1]; simp), ← hw1]
    exact heap_alloc_new w _
  have hc : w2.cell? ⟨w.heap.size, 0, none⟩ = some (.string p) := by simp [World.cell?, hst]
  have hle : Hid (w.heap.size ≤ w1.heap.size) := Lib.hid hB1.size
  have hA := Lib.hid (areDigits_any p w2 hp)
  have hset := Lib.hid (setRow_heap w2 w1.heap.size _ (u8s (zeros 32)).toArray 25 _ hk.out)
  have hw1' := Lib.hid hw1
  have hw2' := Lib.hid hw2
  clear hw1 hw2 hB1 hst
  by_cases hg : 64 < p.size
  · have hg1 : (64 : Int) < (p.size : Int) := by omega
    clear hbad hA hg
    go_enter Try.func19, Try.ntmps19
    go_wp2_with (first
      | (rw [hw1'.out])
      | (rw [hw2'.out])
      | (refine wpList_store_row rfl 25 _ _ rfl w1.heap.size (u8s (zeros 32)).toArray rfl rfl 25 _ hk.out (by rw [hs32.out]; exact hi32.out) (by rw [hs32.out]) (all_oneCell_toArray u8s_one) ?_))
    refine bodyPost_ret (res_row_tmp rfl _ _ w1.heap.size 25 (u8s (zeros 32)).toArray (0, 0) _ _ rfl rfl hset.out Try.underlying25 rfl (by rw [hs32.out]; exact hi32.out)) rfl ⟨rfl, setRow_below hB.out hle.out _⟩
  · have hg1 : decide ((64 : Int) < (p.size : Int)) = false := by simp; omega
    have hA2 := Lib.hid (show Calls Try.prog 29 #[.string p] w2 fun e w' => e = .returned (.bool false) ∧ w' = w2 from by
      have := hA.out
      rwa [hbad.resolve_left hg] at this)
    clear hbad hA hg
    go_enter Try.func19, Try.ntmps19
    go_wp2_with (first
      | (rw [hw1'.out])
      | (rw [hw2'.out])
      | (go_at_call 29; refine hA2.out.mono ?_; rintro e wq ⟨rfl, rfl⟩)
      | (refine wpList_store_row rfl 25 _ _ rfl w1.heap.size (u8s (zeros 32)).toArray rfl rfl 25 _ hk.out (by rw [hs32.out]; exact hi32.out) (by rw [hs32.out]) (all_oneCell_toArray u8s_one) ?_))
    refine bodyPost_ret (res_row_tmp rfl _ _ w1.heap.size 25 (u8s (zeros 32)).toArray (0, 0) _ _ rfl rfl hset.out Try.underlying25 rfl (by rw [hs32.out]; exact hi32.out)) rfl ⟨rfl, setRow_below hB.out hle.out _⟩
end Go.Proofs.Ytlolnpilpdkbkaa

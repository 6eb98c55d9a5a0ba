/- Turns: a struct of 67 cells; what the turns between two lists are. Turns built from their parts. (Printed by tools/gentb.py.) Two turns compared. Steps for the documents' and the program's Turns. A list of turns that was answered, written over and grown. -/
import Derived.Test.YtakcnkmlglkkpaaPkR25

namespace Go.Proofs.Ytakcnkmlglkkpaa
open Go.RowKit
set_option linter.unusedSimpArgs false
set_option linter.unusedVariables false
open Classical

/-- A turn: a name; whether it was there and is there; its old and its new key. -/
structure TurnT where
  name : ByteArray
  had : Bool
  has : Bool
  old : RKey
  new : RKey
def encT (t : TurnT) : List Value := [.string t.name, .bool t.had, .bool t.has] ++ encKy t.old ++ encKy t.new
theorem encT_length (t : TurnT) : (encT t).length = 67 := by simp [encT, encKy_length]
theorem encT_one (t : TurnT) : ∀ v ∈ encT t, v.oneCell' = true := by
  intro v hv
  unfold encT encKy u8s at hv
  simp only [List.mem_append, List.mem_cons, List.mem_map, List.not_mem_nil, or_false] at hv
  rcases hv with ((rfl | rfl | rfl) | ⟨x, _, rfl⟩) | ⟨x, _, rfl⟩ <;> rfl
theorem encT_all (t : TurnT) : (encT t).toArray.all (·.oneCell') = true := by
  rw [Array.all_eq_true]
  intro i hi
  exact encT_one t _ (by simp)
def zT : TurnT := ⟨⟨#[]⟩, false, false, kZ, kZ⟩
theorem zeroTn (w : World) : (zeroValue 55).run Try.prog w = .ok (.agg (encT zT).toArray) w :=
  (zero_of_info (P := Try.prog) (t := 55) (v := .agg (encT zT).toArray) (n := 67) (by kernel_rfl)).1 w
theorem elT : ElemOk Try.prog 51 55 (.agg (encT zT).toArray) 67 88 := ⟨Try.underlying51, by kernel_rfl, by simp [Value.cells, encT_length], by decide⟩
/-- The turn of a name that was there alone; that is there alone; of one with two keys. -/
def tOff (x : RootT) : TurnT := ⟨x.1, true, false, x.2, kZ⟩
def tOn (y : RootT) : TurnT := ⟨y.1, false, true, kZ, y.2⟩
def tBoth (x y : RootT) : TurnT := ⟨x.1, true, true, x.2, y.2⟩
/-- The turns from a list to another. -/
noncomputable def mergeQ : List RootT → List RootT → List TurnT
  | [], [] => []
  | x :: a, [] => tOff x :: mergeQ a []
  | [], y :: b => tOn y :: mergeQ [] b
  | x :: a, y :: b =>
    if ltS x.1 y.1 = true then tOff x :: mergeQ a (y :: b)
    else if ltS y.1 x.1 = true then tOn y :: mergeQ (x :: a) b
    else if x.2 = y.2 then mergeQ a b else tBoth x y :: mergeQ a b
termination_by a b => a.length + b.length
theorem mergeQ_nn : mergeQ [] [] = [] := by rw [mergeQ]
theorem mergeQ_xn (x : RootT) (a : List RootT) : mergeQ (x :: a) [] = tOff x :: mergeQ a [] := by rw [mergeQ]
theorem mergeQ_ny (y : RootT) (b : List RootT) : mergeQ [] (y :: b) = tOn y :: mergeQ [] b := by rw [mergeQ]
theorem mergeQ_xy (x y : RootT) (a b : List RootT) : mergeQ (x :: a) (y :: b) = if ltS x.1 y.1 = true then tOff x :: mergeQ a (y :: b) else if ltS y.1 x.1 = true then tOn y :: mergeQ (x :: a) b else if x.2 = y.2 then mergeQ a b else tBoth x y :: mergeQ a b := by rw [mergeQ]
theorem mergeQ_len : ∀ (n : Nat) (a b : List RootT), a.length + b.length ≤ n → (mergeQ a b).length ≤ a.length + b.length
  | _, [], [], _ => by rw [mergeQ_nn]; simp
  | 0, x :: a, _, h => by simp at h
  | 0, [], y :: b, h => by simp at h
  | n + 1, x :: a, [], h => by
    rw [mergeQ_xn]
    have := mergeQ_len n a [] (by simp at h ⊢; omega)
    simp at this ⊢
    omega
  | n + 1, [], y :: b, h => by
    rw [mergeQ_ny]
    have := mergeQ_len n [] b (by simp at h ⊢; omega)
    simp at this ⊢
    omega
  | n + 1, x :: a, y :: b, h => by
    rw [mergeQ_xy]
    simp only [List.length_cons] at h
    have h1 := mergeQ_len n a (y :: b) (by simp; omega)
    have h2 := mergeQ_len n (x :: a) b (by simp; omega)
    have h3 := mergeQ_len n a b (by omega)
    simp only [List.length_cons] at h1 h2 ⊢
    split
    · simp only [List.length_cons]; omega
    · split
      · simp only [List.length_cons]; omega
      · split
        · omega
        · simp only [List.length_cons]; omega
/-! ### '!=' of keys -/
theorem neKy (a b : RKey) (w : World) : (binOp .neq 35 (.agg (encKy a).toArray) (.agg (encKy b).toArray)).run Try.prog w = .ok (.bool (!decide (a = b))) w := by
  obtain ⟨i, hi⟩ := Option.isSome_iff_exists.1 (show (Try.prog.info? 5).isSome = true by kernel_rfl)
  have := neq_nrow (w := w) (k := .u8) Try.underlying35 Try.underlying5 (by kernel_rfl) hi a.2 b.2
  rw [show decide (a = b) = decide (a.1 = b.1) by simp [Subtype.ext_iff]]
  exact this
theorem guKy (op : BinOp) (x y : Operand) (a b : Array Value) (w : World) : (eqGuard op 35 x y (.agg a) (.agg b)).run Try.prog w = .ok () w := run_eqGuard_agg w op _ x y a b (by kernel_rfl)
theorem bit_any (w : World) (b : Bool) : Calls Try.prog 52 #[.bool b] w fun e w' => e = .returned (.string (if b = true then ⟨#[43]⟩ else ⟨#[45]⟩)) ∧ w = w' := by
  cases b
  · go_enter Try.func52, Try.ntmps52
    go_wp2_with fail
    go_ret
    exact ⟨rfl, rfl⟩
  · go_enter Try.func52, Try.ntmps52
    go_wp2_with fail
    go_ret
    exact ⟨rfl, rfl⟩
end Go.Proofs.Ytakcnkmlglkkpaa

namespace Go.Proofs.Ytakcnkmlglkkpaa
open Go.RowKit
set_option linter.unusedSimpArgs false
set_option linter.unusedVariables false

theorem bOffL (s : ByteArray) (a0 a1 a2 a3 a4 a5 a6 a7 a8 a9 a10 a11 a12 a13 a14 a15 a16 a17 a18 a19 a20 a21 a22 a23 a24 a25 a26 a27 a28 a29 a30 a31 : Nat) : Try.prog.built 55 [(0, .string s), (1, .bool true), (3, .agg (u8s [a0, a1, a2, a3, a4, a5, a6, a7, a8, a9, a10, a11, a12, a13, a14, a15, a16, a17, a18, a19, a20, a21, a22, a23, a24, a25, a26, a27, a28, a29, a30, a31]).toArray)] = some ([Value.string s, .bool true, .bool false] ++ u8s [a0, a1, a2, a3, a4, a5, a6, a7, a8, a9, a10, a11, a12, a13, a14, a15, a16, a17, a18, a19, a20, a21, a22, a23, a24, a25, a26, a27, a28, a29, a30, a31] ++ u8s (List.replicate 32 0)).toArray := by kernel_rfl
theorem bOnL (s : ByteArray) (a0 a1 a2 a3 a4 a5 a6 a7 a8 a9 a10 a11 a12 a13 a14 a15 a16 a17 a18 a19 a20 a21 a22 a23 a24 a25 a26 a27 a28 a29 a30 a31 : Nat) : Try.prog.built 55 [(0, .string s), (2, .bool true), (4, .agg (u8s [a0, a1, a2, a3, a4, a5, a6, a7, a8, a9, a10, a11, a12, a13, a14, a15, a16, a17, a18, a19, a20, a21, a22, a23, a24, a25, a26, a27, a28, a29, a30, a31]).toArray)] = some ([Value.string s, .bool false, .bool true] ++ u8s (List.replicate 32 0) ++ u8s [a0, a1, a2, a3, a4, a5, a6, a7, a8, a9, a10, a11, a12, a13, a14, a15, a16, a17, a18, a19, a20, a21, a22, a23, a24, a25, a26, a27, a28, a29, a30, a31]).toArray := by kernel_rfl
theorem bBothL (s : ByteArray) (p q : Bool) (a0 a1 a2 a3 a4 a5 a6 a7 a8 a9 a10 a11 a12 a13 a14 a15 a16 a17 a18 a19 a20 a21 a22 a23 a24 a25 a26 a27 a28 a29 a30 a31 b0 b1 b2 b3 b4 b5 b6 b7 b8 b9 b10 b11 b12 b13 b14 b15 b16 b17 b18 b19 b20 b21 b22 b23 b24 b25 b26 b27 b28 b29 b30 b31 : Nat) : Try.prog.built 55 [(0, .string s), (1, .bool p), (2, .bool q), (3, .agg (u8s [a0, a1, a2, a3, a4, a5, a6, a7, a8, a9, a10, a11, a12, a13, a14, a15, a16, a17, a18, a19, a20, a21, a22, a23, a24, a25, a26, a27, a28, a29, a30, a31]).toArray), (4, .agg (u8s [b0, b1, b2, b3, b4, b5, b6, b7, b8, b9, b10, b11, b12, b13, b14, b15, b16, b17, b18, b19, b20, b21, b22, b23, b24, b25, b26, b27, b28, b29, b30, b31]).toArray)] = some ([Value.string s, .bool p, .bool q] ++ u8s [a0, a1, a2, a3, a4, a5, a6, a7, a8, a9, a10, a11, a12, a13, a14, a15, a16, a17, a18, a19, a20, a21, a22, a23, a24, a25, a26, a27, a28, a29, a30, a31] ++ u8s [b0, b1, b2, b3, b4, b5, b6, b7, b8, b9, b10, b11, b12, b13, b14, b15, b16, b17, b18, b19, b20, b21, b22, b23, b24, b25, b26, b27, b28, b29, b30, b31]).toArray := by kernel_rfl
theorem bslTL (s : ByteArray) (p q : Bool) (a0 a1 a2 a3 a4 a5 a6 a7 a8 a9 a10 a11 a12 a13 a14 a15 a16 a17 a18 a19 a20 a21 a22 a23 a24 a25 a26 a27 a28 a29 a30 a31 b0 b1 b2 b3 b4 b5 b6 b7 b8 b9 b10 b11 b12 b13 b14 b15 b16 b17 b18 b19 b20 b21 b22 b23 b24 b25 b26 b27 b28 b29 b30 b31 : Nat) : Try.prog.builtSlice 55 1 [(0, .agg ([Value.string s, .bool p, .bool q] ++ u8s [a0, a1, a2, a3, a4, a5, a6, a7, a8, a9, a10, a11, a12, a13, a14, a15, a16, a17, a18, a19, a20, a21, a22, a23, a24, a25, a26, a27, a28, a29, a30, a31] ++ u8s [b0, b1, b2, b3, b4, b5, b6, b7, b8, b9, b10, b11, b12, b13, b14, b15, b16, b17, b18, b19, b20, b21, b22, b23, b24, b25, b26, b27, b28, b29, b30, b31]).toArray)] = some ([Value.string s, .bool p, .bool q] ++ u8s [a0, a1, a2, a3, a4, a5, a6, a7, a8, a9, a10, a11, a12, a13, a14, a15, a16, a17, a18, a19, a20, a21, a22, a23, a24, a25, a26, a27, a28, a29, a30, a31] ++ u8s [b0, b1, b2, b3, b4, b5, b6, b7, b8, b9, b10, b11, b12, b13, b14, b15, b16, b17, b18, b19, b20, b21, b22, b23, b24, b25, b26, b27, b28, b29, b30, b31]).toArray := by kernel_rfl
theorem buildOff (s : ByteArray) (k : RKey) (w : World) : (Instr.build 55 #[(0, .string s), (1, .bool true), (3, .agg (encKy k).toArray)]).run Try.prog w = .ok (.agg (encT (tOff (s, k))).toArray) w := by
  refine run_build w _ _ _ ?_
  obtain ⟨l, hl⟩ := k
  match l, hl with
  | [a0, a1, a2, a3, a4, a5, a6, a7, a8, a9, a10, a11, a12, a13, a14, a15, a16, a17, a18, a19, a20, a21, a22, a23, a24, a25, a26, a27, a28, a29, a30, a31], _ => exact bOffL s a0 a1 a2 a3 a4 a5 a6 a7 a8 a9 a10 a11 a12 a13 a14 a15 a16 a17 a18 a19 a20 a21 a22 a23 a24 a25 a26 a27 a28 a29 a30 a31
theorem buildOn (s : ByteArray) (k : RKey) (w : World) : (Instr.build 55 #[(0, .string s), (2, .bool true), (4, .agg (encKy k).toArray)]).run Try.prog w = .ok (.agg (encT (tOn (s, k))).toArray) w := by
  refine run_build w _ _ _ ?_
  obtain ⟨l, hl⟩ := k
  match l, hl with
  | [a0, a1, a2, a3, a4, a5, a6, a7, a8, a9, a10, a11, a12, a13, a14, a15, a16, a17, a18, a19, a20, a21, a22, a23, a24, a25, a26, a27, a28, a29, a30, a31], _ => exact bOnL s a0 a1 a2 a3 a4 a5 a6 a7 a8 a9 a10 a11 a12 a13 a14 a15 a16 a17 a18 a19 a20 a21 a22 a23 a24 a25 a26 a27 a28 a29 a30 a31
theorem buildTn (s : ByteArray) (p q : Bool) (j k : RKey) (w : World) : (Instr.build 55 #[(0, .string s), (1, .bool p), (2, .bool q), (3, .agg (encKy j).toArray), (4, .agg (encKy k).toArray)]).run Try.prog w = .ok (.agg (encT ⟨s, p, q, j, k⟩).toArray) w := by
  refine run_build w _ _ _ ?_
  obtain ⟨l, hl⟩ := j
  obtain ⟨l2, hl2⟩ := k
  match l, hl, l2, hl2 with
  | [a0, a1, a2, a3, a4, a5, a6, a7, a8, a9, a10, a11, a12, a13, a14, a15, a16, a17, a18, a19, a20, a21, a22, a23, a24, a25, a26, a27, a28, a29, a30, a31], _, [b0, b1, b2, b3, b4, b5, b6, b7, b8, b9, b10, b11, b12, b13, b14, b15, b16, b17, b18, b19, b20, b21, b22, b23, b24, b25, b26, b27, b28, b29, b30, b31], _ => exact bBothL s p q a0 a1 a2 a3 a4 a5 a6 a7 a8 a9 a10 a11 a12 a13 a14 a15 a16 a17 a18 a19 a20 a21 a22 a23 a24 a25 a26 a27 a28 a29 a30 a31 b0 b1 b2 b3 b4 b5 b6 b7 b8 b9 b10 b11 b12 b13 b14 b15 b16 b17 b18 b19 b20 b21 b22 b23 b24 b25 b26 b27 b28 b29 b30 b31
theorem builtT (t : TurnT) : Try.prog.builtSlice 55 1 [(0, .agg (encT t).toArray)] = some (encT t).toArray := by
  obtain ⟨s, p, q, ⟨l, hl⟩, ⟨l2, hl2⟩⟩ := t
  match l, hl, l2, hl2 with
  | [a0, a1, a2, a3, a4, a5, a6, a7, a8, a9, a10, a11, a12, a13, a14, a15, a16, a17, a18, a19, a20, a21, a22, a23, a24, a25, a26, a27, a28, a29, a30, a31], _, [b0, b1, b2, b3, b4, b5, b6, b7, b8, b9, b10, b11, b12, b13, b14, b15, b16, b17, b18, b19, b20, b21, b22, b23, b24, b25, b26, b27, b28, b29, b30, b31], _ => exact bslTL s p q a0 a1 a2 a3 a4 a5 a6 a7 a8 a9 a10 a11 a12 a13 a14 a15 a16 a17 a18 a19 a20 a21 a22 a23 a24 a25 a26 a27 a28 a29 a30 a31 b0 b1 b2 b3 b4 b5 b6 b7 b8 b9 b10 b11 b12 b13 b14 b15 b16 b17 b18 b19 b20 b21 b22 b23 b24 b25 b26 b27 b28 b29 b30 b31
end Go.Proofs.Ytakcnkmlglkkpaa

namespace Go.Proofs.Ytakcnkmlglkkpaa
open Go.RowKit
set_option linter.unusedSimpArgs false
set_option linter.unusedVariables false
open Classical

theorem bytes_eq (a b : ByteArray) : (a.toList == b.toList) = decide (a = b) := by
  rw [Bool.eq_iff_iff, beq_iff_eq, decide_eq_true_iff, ByteArray.toList_eq, ByteArray.toList_eq]
  obtain ⟨⟨x⟩⟩ := a
  obtain ⟨⟨y⟩⟩ := b
  simp
theorem part_key (cs : List Value) (o : Nat) (w : World) : (part 35 cs.toArray o).run Try.prog w = .ok (.agg ((cs.drop o).take 32).toArray) w := by
  have h1 : (isAgg 35).run Try.prog w = .ok true w := Try.isAgg35 w
  have h2 : (sizeOf 35).run Try.prog w = .ok 32 w := Try.sizeOf35 w
  simp [part, h1, h2]
theorem equal_key (d : Nat) (a b : RKey) (w : World) : (Op.equalIn (d + 2) 35 (.agg (encKy a).toArray) (.agg (encKy b).toArray)).run Try.prog w = .ok (decide (a = b)) w := by
  obtain ⟨i, hi⟩ := Option.isSome_iff_exists.1 (show (Try.prog.info? 5).isSome = true by kernel_rfl)
  have := equal_nrow (w := w) (k := .u8) Try.underlying35 Try.underlying5 (by kernel_rfl) hi d a.2 b.2
  rw [show decide (a = b) = decide (a.1 = b.1) by simp [Subtype.ext_iff]]
  exact this
theorem equal_turn (a b : TurnT) (w : World) : (Op.equalIn 10000 55 (.agg (encT a).toArray) (.agg (encT b).toArray)).run Try.prog w = .ok (decide (a = b)) w := by
  have hS : Try.prog.underlying 55 = some (.struct (Try.prog.fieldsOf 55)) := by kernel_rfl
  have hp : Try.prog.stoodInHeld 55 = false := by kernel_rfl
  have h1 : ∀ x : TurnT, (part 9 (encT x).toArray 0).run Try.prog w = .ok (.string x.name) w := fun x => run_part_plain w (by kernel_rfl) (by simp [encT])
  have h2 : ∀ x : TurnT, (part 4 (encT x).toArray 1).run Try.prog w = .ok (.bool x.had) w := fun x => run_part_plain w (by kernel_rfl) (by simp [encT])
  have h3 : ∀ x : TurnT, (part 4 (encT x).toArray 2).run Try.prog w = .ok (.bool x.has) w := fun x => run_part_plain w (by kernel_rfl) (by simp [encT])
  have h4 : ∀ x : TurnT, ((encT x).drop 3).take 32 = encKy x.old := fun x => by
    simp only [encT, List.cons_append, List.nil_append, List.append_assoc, List.drop_succ_cons, List.drop_zero]
    rw [List.take_append_of_le_length (by rw [encKy_length]; decide)]
    exact List.take_of_length_le (by rw [encKy_length]; decide)
  have h5 : ∀ x : TurnT, ((encT x).drop 35).take 32 = encKy x.new := fun x => by
    have : (encT x).drop 35 = encKy x.new := by
      unfold encT
      rw [List.drop_append_of_le_length (by simp [encKy_length])]
      simp [encKy_length]
    rw [this]
    exact List.take_of_length_le (by rw [encKy_length]; decide)
  rw [show (10000 : Nat) = 9999 + 1 from rfl, run_equalIn_agg w 9999 _ _ _ hS hp]
  simp only [Program.fieldsOf, Try.underlying55, Op.eqFields]
  have hs : (Op.equalIn 9999 9 (.string a.name) (.string b.name)).run Try.prog w = .ok (a.name.toList == b.name.toList) w := run_equalIn_string w 9998 9 _ _ Try.underlying9
  have hm : ∀ x y : Bool, (Op.equalIn 9999 4 (.bool x) (.bool y)).run Try.prog w = .ok (x == y) w := fun x y => run_equalIn_bool w 9998 4 _ _ Try.underlying4
  have hk : ∀ x y : RKey, (Op.equalIn 9999 35 (.agg (encKy x).toArray) (.agg (encKy y).toArray)).run Try.prog w = .ok (decide (x = y)) w := fun x y => equal_key 9997 x y w
  rw [if_pos (by decide : "Name" ≠ "_"), if_pos (by decide : "Had" ≠ "_"), if_pos (by decide : "Has" ≠ "_"), if_pos (by decide : "Old" ≠ "_"), if_pos (by decide : "New" ≠ "_")]
  have e1 : decide (a = b) = (decide (a.name = b.name) && (a.had == b.had) && (a.has == b.has) && decide (a.old = b.old) && decide (a.new = b.new)) := by
    obtain ⟨a1, a2, a3, a4, a5⟩ := a
    obtain ⟨b1, b2, b3, b4, b5⟩ := b
    simp [Bool.and_assoc, Bool.beq_eq_decide_eq]
  rw [e1]
  rw [bytes_eq] at hs
  have hm1 := hm a.had b.had
  have hm2 := hm a.has b.has
  have hk1 := hk a.old b.old
  have hk2 := hk a.new b.new
  generalize decide (a.name = b.name) = B1 at hs ⊢
  generalize (a.had == b.had) = B2 at hm1 ⊢
  generalize (a.has == b.has) = B3 at hm2 ⊢
  generalize decide (a.old = b.old) = B4 at hk1 ⊢
  generalize decide (a.new = b.new) = B5 at hk2 ⊢
  simp only [Sem.run_bind, h1, hs, Result.andThen_ok]
  cases B1
  · simp
  · simp only [Bool.not_true, Bool.false_eq_true, if_false, Sem.run_bind, h2, hm1, Result.andThen_ok]
    cases B2
    · simp
    · simp only [Bool.not_true, Bool.false_eq_true, if_false, Sem.run_bind, h3, hm2, Result.andThen_ok]
      cases B3
      · simp
      · simp only [Bool.not_true, Bool.false_eq_true, if_false, Sem.run_bind, part_key, h4, hk1, Result.andThen_ok]
        cases B4
        · simp
        · simp only [Bool.not_true, Bool.false_eq_true, if_false, Sem.run_bind, part_key, h5, hk2, Result.andThen_ok]
          cases B5 <;> simp
theorem neT (a b : TurnT) (w : World) : (binOp .neq 55 (.agg (encT a).toArray) (.agg (encT b).toArray)).run Try.prog w = .ok (.bool (!decide (a = b))) w := by
  rw [run_neq_struct, equal_turn]
  rfl
theorem guT (op : BinOp) (x y : Operand) (a b : Array Value) (w : World) : (eqGuard op 55 x y (.agg a) (.agg b)).run Try.prog w = .ok () w := run_eqGuard_agg w op _ x y a b (by kernel_rfl)
end Go.Proofs.Ytakcnkmlglkkpaa

namespace Go.Proofs.Ytakcnkmlglkkpaa
open Go.RowKit
set_option linter.unusedSimpArgs false
set_option linter.unusedVariables false
open Classical

def rowsT (l : List TurnT) : List Value := l.flatMap encT
theorem rowsT_snoc (l : List TurnT) (x : TurnT) : rowsT (l ++ [x]) = rowsT l ++ encT x := by simp [rowsT]
section
variable {ops : Array Oper} {o : Oper} {a : Act} {w : World} {K : Act → World → Prop} {Q : Exit → Act → World → Prop} {E : Prop}
theorem step_bslT (hg : o.guard = none) (t : TurnT) (t1 : Operand) (ho : o.op = .buildSlice 51 1 #[(0, t1)]) (hx : a.eval t1 = .agg (encT t).toArray)
    (h : K (a.put o.dst (.slice (some ⟨w.heap.size, 0, none⟩) 1 1)) (w.alloc (.cells (encT t).toArray 55))) :
    if Region.wanted o (yielded ops a.tmps) = true then Oper.wp Try.prog o a w K Q else E := by
  rw [if_pos (by simp [Region.wanted, hg])]
  have hr := run_bslice (P := Try.prog) w 51 55 1 #[(0, .agg (encT t).toArray)] (encT t).toArray Try.underlying51 (builtT t)
  unfold Oper.wp execOp
  simp only [ho, List.map_toArray, List.map_cons, List.map_nil, hx, Sem.run_bind, hr, Result.andThen_ok, Sem.run_pure]
  exact h
end
theorem drop_one {l : List RootT} {k : Nat} {x : RootT} (hx : l[k]? = some x) : l.drop k = x :: l.drop (k + 1) := by
  obtain ⟨h, rfl⟩ := List.getElem?_eq_some_iff.1 hx
  exact List.drop_eq_getElem_cons h
/-- Between two rounds of the document's Turns. -/
structure DTI (w2 wr : World) (a b : List RootT) (i j : Nat) (Ao : Option Addr) (no co : Nat) (O : List TurnT) : Prop where
  bel : Below w2.heap.size w2 wr
  own : Own wr w2.heap.size 55 67 Ao no co (rowsT O)
  len : O.length = no
  le : no ≤ i + j
  eq : O ++ mergeQ (a.drop i) (b.drop j) = mergeQ a b
theorem DTI.more {w2 wr w4 : World} {a b : List RootT} {i j i' j' : Nat} {Ao A4 : Option Addr} {no co c4 : Nat} {O : List TurnT} {t : TurnT} (h : DTI w2 wr a b i j Ao no co O)
    (ho : Own w4 w2.heap.size 55 67 A4 (no + 1) c4 (rowsT O ++ encT t)) (hb : Below w2.heap.size wr w4) (hij : i + j + 1 ≤ i' + j') (hm : mergeQ (a.drop i) (b.drop j) = t :: mergeQ (a.drop i') (b.drop j')) : DTI w2 w4 a b i' j' A4 (no + 1) c4 (O ++ [t]) :=
  ⟨h.bel.trans hb, by rw [rowsT_snoc]; exact ho, by simp [h.len], by have := h.le; omega, by rw [← h.eq, hm]; simp⟩
theorem DTI.drew {w2 wr : World} {a b : List RootT} {i j : Nat} {Ao : Option Addr} {no co : Nat} {O : List TurnT} (h : DTI w2 wr a b i j Ao no co O) (m : Nat) : DTI w2 (wr.drewN m) a b i j Ao no co O :=
  ⟨below_drewN h.bel m, h.own.drewN m, h.len, h.le, h.eq⟩
end Go.Proofs.Ytakcnkmlglkkpaa

namespace Go.Proofs.Ytakcnkmlglkkpaa
open Go.RowKit
set_option linter.unusedSimpArgs false
set_option linter.unusedVariables false

def moreT : TurnT := ⟨⟨#[109, 111, 114, 101]⟩, false, false, kZ, kZ⟩
theorem buildMt (w : World) : (Instr.build 55 #[(0, .string ⟨#[109, 111, 114, 101]⟩)]).run Try.prog w = .ok (.agg (encT moreT).toArray) w := run_build w _ _ _ (by kernel_rfl)
section
variable {P : Program} {ops : Array Oper} {rest : List Oper} {o : Oper} {a : Act} {w : World} {Q : Exit → Act → World → Prop}
theorem wpList_bl (hg : o.guard = none) (t : TypeId) (parts : Array (Nat × Operand)) (ho : o.op = .build t parts) (vs : Array (Nat × Value)) (hv : (parts.map fun (i, x) => (i, a.eval x)) = vs) (v : Value)
    (hr : ∀ w, (Instr.build t vs).run P w = .ok v w) (h : wpList P ops Q rest (a.put o.dst v) w) : wpList P ops Q (o :: rest) a w :=
  wpList_plain hg fun K hK => by
    unfold Oper.wp execOp
    simp only [ho, hv, Sem.run_bind, hr w, Result.andThen_ok, Sem.run_pure]
    exact hK _ _ h
end
set_option maxRecDepth 100000 in
set_option maxHeartbeats 4000000 in
theorem spoiltT_any (w : World) (xs : List Value) (A : Option Addr) (n c B : Nat) (ho : Own w B 55 67 A n c xs) (hn : n ≤ 100000) (hB : B ≤ w.heap.size) :
    Calls Try.prog 35 #[.slice A n c] w fun e w' => (∃ v, e = .returned v) ∧ Gro (fun j => blockOf A = some j) w w' := by
  have ho' := Lib.hid ho
  have hB' := Lib.hid hB
  clear ho hB
  go_enter Try.func35, Try.ntmps35
  go_wp2_with fail
  go_loopw [2] (fun i wr => ∃ (k : Nat) (ys : List Value), k ≤ n ∧ i = .int .i64 k ∧ Hid (Own wr B 55 67 A n c ys) ∧ Hid (w.grownBy wr (blockOf A))) (fun i _ => n - (intOf i).toNat)
  case atStart => exact ⟨0, xs, by omega, rfl, ho', Lib.hid (World.grownBy.refl w _)⟩
  case round =>
    obtain ⟨k, ys, hk, rfl, ho2, hg2⟩ := hrel
    by_cases hlt : k < n
    · obtain ⟨g, rfl⟩ := ho2.out.head (by omega)
      have q1 : wr.cell? ⟨g, k * 67, none⟩ = some (ys[k * 67]?.getD undef) := by
        rw [ho2.out.cell (k * 67) (by omega)]
        have : k * 67 < ys.length := by rw [ho2.out.len]; omega
        simp [this]
      have f1 : wr.frozen? ⟨g, k * 67, none⟩ = false := ho2.out.frozen _
      have o3 := Lib.hid (ho2.out.set (k * 67) (.string ⟨#[115, 112, 111, 105, 108, 116]⟩))
      have g3 := Lib.hid (hg2.out.trans (ho2.out.set_grown (k * 67) (.string ⟨#[115, 112, 111, 105, 108, 116]⟩)))
      go_wp2_with fail
      go_roundw
      case rel => exact ⟨k + 1, _, by omega, by go_num, o3, g3⟩
      case measure => simp [intOf]; omega
    · obtain rfl : k = n := by omega
      have hg0 : Hid (Gro (fun j => blockOf A = some j) w wr) := Lib.hid (Gro.of_grown hg2.out fun j hj => hj)
      have hBr : Hid (B ≤ wr.heap.size) := Lib.hid (Nat.le_trans hB'.out hg2.out.size)
      clear hg2 ho'
      go_wp2_with fail
      go_loopw [0, 3] (fun sv i wx => ∃ (k2 n2 c2 : Nat) (A2 : Option Addr) (zs : List Value), k2 ≤ 16 ∧ n2 ≤ 100000 + k2 ∧ i = .int .i64 k2 ∧ sv = .slice A2 n2 c2 ∧ Hid (Own wx B 55 67 A2 n2 c2 zs) ∧ Hid (Gro (fun j => blockOf A = some j) w wx ∧ ∀ j, blockOf A2 = some j → blockOf A = some j ∨ w.heap.size ≤ j) ∧ Hid (B ≤ wx.heap.size)) (fun _ i _ => 16 - (intOf i).toNat)
      case atStart => exact ⟨0, k, c, A, ys, by omega, by omega, rfl, rfl, ho2, Lib.hid ⟨hg0.out, fun j hj => .inl hj⟩, hBr⟩
      case round =>
        clear ho2 hg0 hBr
        obtain ⟨k2, n2, c2, A2, zs, hk2, hn2, rfl, rfl, hoz, hgz, hBz⟩ := hrel
        by_cases h16 : k2 < 16
        · have b1 : (k2 : Int) < 16 := by omega
          go_wp2_with (first
            | (refine wpList_bl rfl 55 _ rfl #[(0, .string ⟨#[109, 111, 114, 101]⟩)] (by rw [List.map_toArray]; rfl) _ buildMt ?_)
            | (refine Great.wpList_buildSliceTo rfl 51 55 1 _ rfl _ rfl _ rfl Try.underlying51 (encT moreT).toArray (by rw [List.map_toArray]; exact builtT moreT) ?_)
            | (at_builtin; refine wpList_app1 elT wr (encT moreT).toArray (by simp [encT_length]) rfl _ _ rfl rfl hoz.out rfl (by intro u hu; exact encT_one moreT u (by simpa using hu)) (by unfold maxLen; omega) (by omega) hBz.out (n2 + 1) rfl (zs ++ encT moreT) (by simp) ?_
               intro A4 c4 w4 o4 at4 b4
               have o4' := Lib.hid o4
               have g4' : Hid (Gro (fun j => blockOf A = some j) w w4 ∧ ∀ j, blockOf A4 = some j → blockOf A = some j ∨ w.heap.size ≤ j) := Lib.hid ⟨hgz.out.1.trans (Gro.of_grown (S := fun j => blockOf A2 = some j) at4.grown fun j hj => hj) hgz.out.2, fun j hj => by
                 rcases at4 with ⟨e, _⟩ | ⟨q, e, hq, _⟩
                 · exact hgz.out.2 j (e ▸ hj)
                 · rw [hj] at e
                   cases e
                   exact .inr (Nat.le_trans hgz.out.1.size hq)⟩
               have B4' := Lib.hid (Nat.le_trans hBz.out b4.size)
               clear o4 at4 b4))
          go_roundw
          case rel => exact ⟨k2 + 1, n2 + 1, c4, A4, _, by omega, by omega, by go_num, rfl, o4', g4', B4'⟩
          case measure => simp [intOf]; omega
        · obtain rfl : k2 = 16 := by omega
          go_wp2_with fail
          go_end0
          exact ⟨⟨_, rfl⟩, hgz.out.1⟩
end Go.Proofs.Ytakcnkmlglkkpaa

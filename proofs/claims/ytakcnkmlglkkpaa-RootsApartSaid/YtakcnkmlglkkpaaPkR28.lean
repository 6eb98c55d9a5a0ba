/- Answers, steps: structs of the law's. What a step answers of a table of lists: plain words. The program's Turns: the turn that is being made, in its block; what stands between two rounds. -/
import Derived.Test.YtakcnkmlglkkpaaPkR27

namespace Go.Proofs.Ytakcnkmlglkkpaa
open Go.RowKit
set_option linter.unusedSimpArgs false
set_option linter.unusedVariables false
open Classical

/-- An answer. -/
structure AnsT where
  e : Nat
  key : RKey
  n : Nat
  ok : Bool
  list : ByteArray
def encA (x : AnsT) : List Value := [.int .i64 (x.e : Int)] ++ encKy x.key ++ [.int .u64 (x.n : Int), .bool x.ok, .string x.list]
theorem encA_length (x : AnsT) : (encA x).length = 36 := by simp [encA, encKy_length]
theorem encA_all (x : AnsT) : (encA x).toArray.all (·.oneCell') = true := by
  rw [Array.all_eq_true]
  intro i hi
  have h : ∀ v ∈ encA x, v.oneCell' = true := by
    intro v hv
    unfold encA encKy u8s at hv
    simp only [List.mem_append, List.mem_cons, List.mem_map, List.not_mem_nil, or_false] at hv
    rcases hv with (rfl | ⟨y, _, rfl⟩) | (rfl | rfl | rfl) <;> rfl
  exact h _ (by simp)
def zA : AnsT := ⟨0, kZ, 0, false, ⟨#[]⟩⟩
theorem zeroAn (w : World) : (zeroValue 38).run Try.prog w = .ok (.agg (encA zA).toArray) w :=
  (zero_of_info (P := Try.prog) (t := 38) (v := .agg (encA zA).toArray) (n := 36) (by kernel_rfl)).1 w
/-- A step. -/
structure StepT where
  kind : Int
  name : ByteArray
  key : RKey
  any : Bool
  v : Nat
  w : Nat
def encS (x : StepT) : List Value := [.int .i64 x.kind, .string x.name] ++ encKy x.key ++ [.bool x.any, .int .u64 (x.v : Int), .int .u64 (x.w : Int)]
theorem encS_length (x : StepT) : (encS x).length = 37 := by simp [encS, encKy_length]
theorem equal_ans (a b : AnsT) (w : World) : (Op.equalIn 10000 38 (.agg (encA a).toArray) (.agg (encA b).toArray)).run Try.prog w = .ok (decide (a = b)) w := by
  have hS : Try.prog.underlying 38 = some (.struct (Try.prog.fieldsOf 38)) := by kernel_rfl
  have hp : Try.prog.stoodInHeld 38 = false := by kernel_rfl
  have hlk : ∀ x : AnsT, (encKy x.key).length = 32 := fun x => encKy_length _
  have h1 : ∀ x : AnsT, (part 33 (encA x).toArray 0).run Try.prog w = .ok (.int .i64 (x.e : Int)) w := fun x => run_part_plain w (by kernel_rfl) (by simp [encA])
  have h2 : ∀ x : AnsT, ((encA x).drop 1).take 32 = encKy x.key := fun x => by
    simp only [encA, List.cons_append, List.nil_append, List.append_assoc, List.drop_succ_cons, List.drop_zero]
    rw [List.take_append_of_le_length (by rw [hlk]; decide)]
    exact List.take_of_length_le (by rw [hlk]; decide)
  have at_ : ∀ (x : AnsT) (j : Nat) (v : Value), [Value.int .u64 (x.n : Int), .bool x.ok, .string x.list][j]? = some v → (encA x).toArray[33 + j]? = some v := fun x j v hv => by
    rw [List.getElem?_toArray]
    unfold encA
    rw [List.getElem?_append_right (by simp [hlk])]
    rw [show 33 + j - ([Value.int .i64 (x.e : Int)] ++ encKy x.key).length = j by simp only [List.length_append, hlk, List.length_cons, List.length_nil]; omega]
    exact hv
  have h3 : ∀ x : AnsT, (part 36 (encA x).toArray 33).run Try.prog w = .ok (.int .u64 (x.n : Int)) w := fun x => run_part_plain w (by kernel_rfl) (at_ x 0 _ rfl)
  have h4 : ∀ x : AnsT, (part 4 (encA x).toArray 34).run Try.prog w = .ok (.bool x.ok) w := fun x => run_part_plain w (by kernel_rfl) (at_ x 1 _ rfl)
  have h5 : ∀ x : AnsT, (part 9 (encA x).toArray 35).run Try.prog w = .ok (.string x.list) w := fun x => run_part_plain w (by kernel_rfl) (at_ x 2 _ rfl)
  rw [show (10000 : Nat) = 9999 + 1 from rfl, run_equalIn_agg w 9999 _ _ _ hS hp]
  simp only [Program.fieldsOf, Try.underlying38, Op.eqFields]
  have he : (Op.equalIn 9999 33 (.int .i64 (a.e : Int)) (.int .i64 (b.e : Int))).run Try.prog w = .ok ((a.e : Int) == (b.e : Int)) w := run_equalIn_int w 9998 33 .i64 .i64 _ _ Try.underlying33
  have hk : (Op.equalIn 9999 35 (.agg (encKy a.key).toArray) (.agg (encKy b.key).toArray)).run Try.prog w = .ok (decide (a.key = b.key)) w := equal_key 9997 _ _ w
  have hn : (Op.equalIn 9999 36 (.int .u64 (a.n : Int)) (.int .u64 (b.n : Int))).run Try.prog w = .ok ((a.n : Int) == (b.n : Int)) w := run_equalIn_int w 9998 36 .u64 .u64 _ _ Try.underlying36
  have hm : (Op.equalIn 9999 4 (.bool a.ok) (.bool b.ok)).run Try.prog w = .ok (a.ok == b.ok) w := run_equalIn_bool w 9998 4 _ _ Try.underlying4
  have hs : (Op.equalIn 9999 9 (.string a.list) (.string b.list)).run Try.prog w = .ok (a.list.toList == b.list.toList) w := run_equalIn_string w 9998 9 _ _ Try.underlying9
  rw [if_pos (by decide : "E" ≠ "_"), if_pos (by decide : "Key" ≠ "_"), if_pos (by decide : "N" ≠ "_"), if_pos (by decide : "Ok" ≠ "_"), if_pos (by decide : "List" ≠ "_")]
  have e1 : decide (a = b) = (((a.e : Int) == (b.e : Int)) && decide (a.key = b.key) && ((a.n : Int) == (b.n : Int)) && (a.ok == b.ok) && decide (a.list = b.list)) := by
    obtain ⟨a1, a2, a3, a4, a5⟩ := a
    obtain ⟨b1, b2, b3, b4, b5⟩ := b
    rw [Bool.eq_iff_iff]
    simp [and_assoc]
    rw [show ((a1 : Int) = (b1 : Int)) = (a1 = b1) by simp only [eq_iff_iff]; omega, show ((a3 : Int) = (b3 : Int)) = (a3 = b3) by simp only [eq_iff_iff]; omega]
  rw [e1]
  rw [bytes_eq] at hs
  generalize ((a.e : Int) == (b.e : Int)) = B1 at he ⊢
  generalize decide (a.key = b.key) = B2 at hk ⊢
  generalize ((a.n : Int) == (b.n : Int)) = B3 at hn ⊢
  generalize (a.ok == b.ok) = B4 at hm ⊢
  generalize decide (a.list = b.list) = B5 at hs ⊢
  simp only [Sem.run_bind, h1, he, Result.andThen_ok]
  cases B1
  · simp
  · simp only [Bool.not_true, Bool.false_eq_true, if_false, Sem.run_bind, part_key, h2, hk, Result.andThen_ok]
    cases B2
    · simp
    · simp only [Bool.not_true, Bool.false_eq_true, if_false, Sem.run_bind, h3, hn, Result.andThen_ok]
      cases B3
      · simp
      · simp only [Bool.not_true, Bool.false_eq_true, if_false, Sem.run_bind, h4, hm, Result.andThen_ok]
        cases B4
        · simp
        · simp only [Bool.not_true, Bool.false_eq_true, if_false, Sem.run_bind, h5, hs, Result.andThen_ok]
          cases B5 <;> simp
theorem neA (a b : AnsT) (w : World) : (binOp .neq 38 (.agg (encA a).toArray) (.agg (encA b).toArray)).run Try.prog w = .ok (.bool (!decide (a = b))) w := by
  rw [run_neq_struct, equal_ans]
  rfl
theorem guA (op : BinOp) (x y : Operand) (a b : Array Value) (w : World) : (eqGuard op 38 x y (.agg a) (.agg b)).run Try.prog w = .ok () w := run_eqGuard_agg w op _ x y a b (by kernel_rfl)
end Go.Proofs.Ytakcnkmlglkkpaa

namespace Go.Proofs.Ytakcnkmlglkkpaa
open Go.RowKit
set_option linter.unusedSimpArgs false
set_option linter.unusedVariables false
open Classical

/-- The lists of a table are right: rising, named, few. -/
def okLs (L : Lists) : Prop := 0 < L.length ∧ ∀ l ∈ L, okL l ∧ l.length ≤ 64
theorem okLs_present {L : Lists} (h : okLs L) : okL (present L) ∧ (present L).length ≤ 64 := h.2 _ (List.mem_of_getElem? (present_last h.1))
theorem TblL.ok {w : World} {B g : Nat} {A : Option Addr} {L : Lists} (h : TblL w B g A L) : okLs L := by
  obtain ⟨c, vs, ps, rfl, h⟩ := h
  refine ⟨by simpa [listsOf] using h.ne, fun l hl => ?_⟩
  obtain ⟨t, ht, rfl⟩ := List.mem_map.1 hl
  exact ⟨⟨h.rise t ht, h.nam t ht⟩, by rw [Tr.cnt_list]; exact h.few t ht⟩
theorem totS_named {l : List RootT} (h : ∀ r ∈ l, Name r.1) : totS l ≤ l.length * 65 := by
  induction l with
  | nil => simp [totS]
  | cons x l ih =>
    have h1 := ih fun r hr => h r (by simp [hr])
    have h2 := (h x (by simp)).2.1
    simp only [totS, List.map_cons, List.sum_cons, List.length_cons] at h1 ⊢
    omega
theorem totT_named {l : List TurnT} (h : ∀ t ∈ l, Name t.name) : totT l ≤ l.length * 99 := by
  induction l with
  | nil => simp [totT]
  | cons x l ih =>
    have h1 := ih fun r hr => h r (by simp [hr])
    have h2 := (h x (by simp)).2.1
    simp only [totT, List.map_cons, List.sum_cons, List.length_cons] at h1 ⊢
    omega
theorem merge_named : ∀ (n : Nat) (a b : List RootT), a.length + b.length ≤ n → (∀ r ∈ a, Name r.1) → (∀ r ∈ b, Name r.1) → ∀ t ∈ mergeQ a b, Name t.name
  | _, [], [], _, _, _, t, ht => by rw [mergeQ_nn] at ht; cases ht
  | 0, _ :: _, _, h, _, _, _, _ => by simp at h
  | 0, [], _ :: _, h, _, _, _, _ => by simp at h
  | n + 1, x :: a, [], h, ha, hb, t, ht => by
    rw [mergeQ_xn] at ht
    rcases List.mem_cons.1 ht with rfl | ht
    · exact ha x (by simp)
    · exact merge_named n a [] (by simp at h ⊢; omega) (fun r hr => ha r (by simp [hr])) hb t ht
  | n + 1, [], y :: b, h, ha, hb, t, ht => by
    rw [mergeQ_ny] at ht
    rcases List.mem_cons.1 ht with rfl | ht
    · exact hb y (by simp)
    · exact merge_named n [] b (by simp at h ⊢; omega) ha (fun r hr => hb r (by simp [hr])) t ht
  | n + 1, x :: a, y :: b, h, ha, hb, t, ht => by
    rw [mergeQ_xy] at ht
    simp only [List.length_cons] at h
    split at ht
    · rcases List.mem_cons.1 ht with rfl | ht
      · exact ha x (by simp)
      · exact merge_named n a (y :: b) (by simp; omega) (fun r hr => ha r (by simp [hr])) hb t ht
    · split at ht
      · rcases List.mem_cons.1 ht with rfl | ht
        · exact hb y (by simp)
        · exact merge_named n (x :: a) b (by simp; omega) ha (fun r hr => hb r (by simp [hr])) t ht
      · split at ht
        · exact merge_named n a b (by omega) (fun r hr => ha r (by simp [hr])) (fun r hr => hb r (by simp [hr])) t ht
        · rcases List.mem_cons.1 ht with rfl | ht
          · exact ha x (by simp)
          · exact merge_named n a b (by omega) (fun r hr => ha r (by simp [hr])) (fun r hr => hb r (by simp [hr])) t ht
/-- What a step answers; the lists behind it. -/
noncomputable def stepQ (L : Lists) (s : StepT) : AnsT × Lists :=
  let l := present L
  if s.kind = 1 then (⟨setQ l s.name, kZ, 0, false, ⟨#[]⟩⟩, if setQ l s.name = 0 then L ++ [setL (s.name, s.key) l] else L)
  else if s.kind = 2 then (⟨dropQ l s.name, kZ, 0, false, ⟨#[]⟩⟩, if dropQ l s.name = 0 then L ++ [dropL s.name l] else L)
  else if s.kind = 3 then (⟨(getQ l s.name).2, (getQ l s.name).1, 0, false, ⟨#[]⟩⟩, L)
  else if s.kind = 4 then (⟨0, kZ, 0, (nextQ l s.name s.any).isSome, rootS ((nextQ l s.name s.any).getD rZ)⟩, L)
  else if s.kind = 5 then (⟨0, kZ, l.length, false, ⟨#[]⟩⟩, L)
  else if s.kind = 6 then (⟨0, kZ, 0, false, listS l⟩, L)
  else if s.kind = 7 then (⟨0, kZ, L.length - 1, false, ⟨#[]⟩⟩, L)
  else if s.kind = 8 then (match L[s.v]? with | some a => ⟨0, kZ, 0, false, listS a⟩ | none => ⟨133, kZ, 0, false, ⟨#[]⟩⟩, L)
  else if s.kind = 9 then (match L[s.v]?, L[s.w]? with | some a, some b => ⟨0, kZ, 0, false, turnsS (mergeQ a b)⟩ | _, _ => ⟨133, kZ, 0, false, ⟨#[]⟩⟩, L)
  else (zA, L)
theorem stepQ_len (L : Lists) (s : StepT) : L.length ≤ (stepQ L s).2.length ∧ (stepQ L s).2.length ≤ L.length + 1 := by
  unfold stepQ
  simp only
  repeat' split
  all_goals simp
end Go.Proofs.Ytakcnkmlglkkpaa

namespace Go.Proofs.Ytakcnkmlglkkpaa
open Go.RowKit
set_option linter.unusedSimpArgs false
set_option linter.unusedVariables false
open Classical

/-- A turn in a block of its own, that may be written. -/
structure TA (w : World) (T : Nat) (t : TurnT) : Prop where
  row : w.rangeAt T 0 (encT t)
  there : w.there T 0 67
theorem World.there_blk {w : World} {T : Nat} {cs : Array Value} {ty : TypeId} (h : w.heap[T]? = some (.cells cs ty (0, 0))) : w.there T 0 cs.size := fun j hj => by
  rw [Nat.zero_add]
  exact ⟨by simp [World.cell?, h, hj], by simp [World.frozen?, h]⟩
theorem TA.new (w : World) (t : TurnT) : TA (w.alloc (.cells (encT t).toArray 55)) w.heap.size t := by
  have h := heap_alloc_new w (.cells (encT t).toArray 55)
  refine ⟨fun j v hj => ?_, ?_⟩
  · rw [Nat.zero_add, cell_of_row _ _ j _ _ _ h]
    simpa using hj
  · have := World.there_blk h
    simpa [encT_length] using this
section
variable {w w' : World} {T B : Nat} {t : TurnT}
theorem TA.drew (h : TA w T t) (m : Nat) : TA (w.drewN m) T t := ⟨h.row, h.there⟩
theorem TA.below (h : TA w T t) (hb : Below B w w') (hT : T < B) : TA w' T t :=
  ⟨fun j v hj => (hb.cell (p := ⟨T, 0 + j, none⟩) hT).trans (h.row j v hj), fun j hj => ⟨by rw [hb.cell (p := ⟨T, 0 + j, none⟩) hT]; exact (h.there j hj).1, by rw [hb.frozen (p := ⟨T, 0 + j, none⟩) hT]; exact (h.there j hj).2⟩⟩
theorem TA.cell (h : TA w T t) {j : Nat} {v : Value} (hj : (encT t)[j]? = some v) : w.cell? ⟨T, j, none⟩ = some v := by
  have := h.row j v hj
  rwa [Nat.zero_add] at this
theorem TA.frozen (h : TA w T t) {j : Nat} (hj : j < 67) : w.frozen? ⟨T, j, none⟩ = false := by
  have := (h.there j hj).2
  rwa [Nat.zero_add] at this
/-- One cell is written. -/
theorem TA.set {t' : TurnT} (h : TA w T t) {j : Nat} {u : Value} (hj : j < 67) (he : (encT t).set j u = encT t') : TA (w.setCell ⟨T, j, none⟩ u) T t' := by
  obtain ⟨v0, hv0⟩ : ∃ v, (encT t)[j]? = some v := ⟨_, List.getElem?_eq_getElem (by rw [encT_length]; exact hj)⟩
  refine ⟨fun i v hi => ?_, fun i hi => ?_⟩
  · rw [Nat.zero_add]
    rw [← he] at hi
    by_cases e : i = j
    · subst e
      rw [List.getElem?_set_self (by rw [encT_length]; exact hj)] at hi
      cases hi
      exact World.cell?_setCell_same w _ _ (h.cell hv0)
    · rw [List.getElem?_set_ne (fun q => e q.symm)] at hi
      rw [World.cell?_setCell_other w _ _ _ (fun q => e (by injection q with _ q2; exact q2.symm))]
      exact h.cell hi
  · rw [Nat.zero_add, World.frozen?_setCell]
    refine ⟨?_, h.frozen hi⟩
    by_cases e : i = j
    · subst e
      rw [World.cell?_setCell_same w _ _ (h.cell hv0)]
      rfl
    · rw [World.cell?_setCell_other w _ _ _ (fun q => e (by injection q with _ q2; exact q2.symm))]
      have := (h.there i hi).1
      rwa [Nat.zero_add] at this
/-- Some cells are written. -/
theorem TA.sets {t' : TurnT} (h : TA w T t) {o : Nat} {l : List Value} (ho : o + l.length ≤ 67) (h1 : ∀ j v, (j < o ∨ o + l.length ≤ j) → (encT t')[j]? = some v → (encT t)[j]? = some v) (h2 : ∀ j v, (encT t')[o + j]? = some v → j < l.length → l[j]? = some v) : TA (w.setCells T o l) T t' := by
  have ht : w.there T o l.length := fun j hj => by
    have := h.there (o + j) (by omega)
    rwa [Nat.zero_add] at this
  refine ⟨fun i v hi => ?_, World.there_setCells h.there T o l⟩
  rw [Nat.zero_add]
  by_cases e : o ≤ i ∧ i < o + l.length
  · obtain ⟨j, rfl⟩ : ∃ j, i = o + j := ⟨i - o, by omega⟩
    exact World.rangeAt_setCells_same w T o l ht j v (h2 j v hi (by omega))
  · rw [World.cell?_setCells_out T l o w ⟨T, i, none⟩ (fun _ _ => by show i < o ∨ o + l.length ≤ i; omega)]
    exact h.cell (h1 i v (by omega) hi)
theorem TA.all (h : TA w T t) (t' : TurnT) : TA (w.setCells T 0 (encT t')) T t' :=
  h.sets (by rw [encT_length]; decide) (fun j v hj hv => by
    have := (List.getElem?_eq_some_iff.1 hv).1
    rw [encT_length] at this hj
    omega) (fun j v hv _ => by rwa [Nat.zero_add] at hv)
theorem TA.key (h : TA w T t) (k : RKey) : TA (w.setCells T 35 (encKy k)) T { t with new := k } := by
  have hA : ([Value.string t.name, .bool t.had, .bool t.has] ++ encKy t.old).length = 35 := by simp [encKy_length]
  refine h.sets (by rw [encKy_length]; decide) (fun j v hj hv => ?_) (fun j v hv _ => ?_)
  · have hl := (List.getElem?_eq_some_iff.1 hv).1
    rw [encT_length] at hl
    rw [encKy_length] at hj
    unfold encT at hv ⊢
    rw [List.getElem?_append_left (by rw [hA]; omega)] at hv
    rw [List.getElem?_append_left (by rw [hA]; omega)]
    exact hv
  · unfold encT at hv
    rw [List.getElem?_append_right (by rw [hA]; omega), hA, show 35 + j - 35 = j by omega] at hv
    exact hv
theorem TA.name (h : TA w T t) (s : ByteArray) : TA (w.setCell ⟨T, 0, none⟩ (.string s)) T { t with name := s } := h.set (by decide) (by simp [encT])
theorem TA.has (h : TA w T t) (b : Bool) : TA (w.setCell ⟨T, 2, none⟩ (.bool b)) T { t with has := b } := h.set (by decide) (by simp [encT])
end
/-- What stands between two rounds of the program's Turns: what is left of the lists; the turns so far. -/
structure PTI (w2 wr : World) (a b ra rb : List RootT) (Ao : Option Addr) (no co : Nat) (O : List TurnT) : Prop where
  bel : Below w2.heap.size w2 wr
  own : Own wr w2.heap.size 55 67 Ao no co (rowsT O)
  len : O.length = no
  le : no + ra.length + rb.length ≤ a.length + b.length
  eq : O ++ mergeQ ra rb = mergeQ a b
/-- A turn the other way about. -/
def TurnT.back (t : TurnT) : TurnT := ⟨t.name, t.has, t.had, t.new, t.old⟩
theorem tOff_back (x : RootT) : (tOff x).back ≠ tOff x := fun h => by
  have := congrArg TurnT.had h
  simp [TurnT.back, tOff] at this
theorem tOn_back (x : RootT) : (tOn x).back ≠ tOn x := fun h => by
  have := congrArg TurnT.had h
  simp [TurnT.back, tOn] at this
theorem tBoth_back (x y : RootT) : (tBoth x y).back = tBoth x y ↔ x.2 = y.2 := by
  simp only [TurnT.back, tBoth, TurnT.mk.injEq, true_and]
  exact ⟨fun h => h.2, fun h => ⟨h.symm, h⟩⟩
end Go.Proofs.Ytakcnkmlglkkpaa

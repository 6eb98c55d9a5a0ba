/- An encoder's further methods: Put. A string's bytes appended. No program is named here. The library's contract on bytes.Clone at this seat's program, laid by the shelf's command. (The numbers are this seat's.) An encoder's further methods: the first Put on a fresh one, Text, Bytes. -/
import Derived.Test.YtkjndgapejbgcaaDoorPkD4
import Derived.Laws.Bits64
import Derived.Lib.AppendStr
import Derived.Ground.SlbCloneProg
import Derived.Shelf.Bytes.SlClone
import Derived.Test.YtkjndgapejbgcaaDoorProg

namespace Go.Proofs.YtkjndgapejbgcaaDoor
open Go.RowKit
set_option linter.unusedSimpArgs false

/-- A number's lowest n bytes, the lowest first. -/
def fixF : Nat → Nat → List Nat
  | 0, _ => []
  | n + 1, u => u % 256 :: fixF n (u / 256)

set_option maxRecDepth 20000 in
theorem width64_any (w : World) : Calls Tryd.prog 69 #[] w fun e w' => e = .returned (.int .i64 8) ∧ w = w' := by
  go_enter Tryd.func69, Tryd.ntmps69
  go_wp2_with fail
  go_loop [1, 2] (fun i v => (i = .int .i64 0 ∧ v = .int .i64 1) ∨ (i = .int .i64 1 ∧ v = .int .i64 256) ∨ (i = .int .i64 2 ∧ v = .int .i64 65536) ∨ (i = .int .i64 3 ∧ v = .int .i64 16777216) ∨ (i = .int .i64 4 ∧ v = .int .i64 4294967296) ∨ (i = .int .i64 5 ∧ v = .int .i64 1099511627776) ∨ (i = .int .i64 6 ∧ v = .int .i64 281474976710656) ∨ (i = .int .i64 7 ∧ v = .int .i64 72057594037927936) ∨ (i = .int .i64 8 ∧ v = .int .i64 0)) (fun i _ => 9 - (intOf i).toNat)
  case atStart => exact .inl ⟨rfl, rfl⟩
  case round =>
    rcases hrel with ⟨rfl, rfl⟩ | ⟨rfl, rfl⟩ | ⟨rfl, rfl⟩ | ⟨rfl, rfl⟩ | ⟨rfl, rfl⟩ | ⟨rfl, rfl⟩ | ⟨rfl, rfl⟩ | ⟨rfl, rfl⟩ | ⟨rfl, rfl⟩
    · go_wp2_with fail
      go_round
      case rel => exact (.inr (.inl ⟨rfl, rfl⟩))
      case measure => simp [intOf]
    · go_wp2_with fail
      go_round
      case rel => exact (.inr (.inr (.inl ⟨rfl, rfl⟩)))
      case measure => simp [intOf]
    · go_wp2_with fail
      go_round
      case rel => exact (.inr (.inr (.inr (.inl ⟨rfl, rfl⟩))))
      case measure => simp [intOf]
    · go_wp2_with fail
      go_round
      case rel => exact (.inr (.inr (.inr (.inr (.inl ⟨rfl, rfl⟩)))))
      case measure => simp [intOf]
    · go_wp2_with fail
      go_round
      case rel => exact (.inr (.inr (.inr (.inr (.inr (.inl ⟨rfl, rfl⟩))))))
      case measure => simp [intOf]
    · go_wp2_with fail
      go_round
      case rel => exact (.inr (.inr (.inr (.inr (.inr (.inr (.inl ⟨rfl, rfl⟩)))))))
      case measure => simp [intOf]
    · go_wp2_with fail
      go_round
      case rel => exact (.inr (.inr (.inr (.inr (.inr (.inr (.inr (.inl ⟨rfl, rfl⟩))))))))
      case measure => simp [intOf]
    · go_wp2_with fail
      go_round
      case rel => exact (.inr (.inr (.inr (.inr (.inr (.inr (.inr (.inr ⟨rfl, congrArg _ (by unfold wrap64; omega)⟩))))))))
      case measure => simp [intOf]
    · go_wp2_with fail
      go_ret
      exact ⟨rfl, rfl⟩

set_option maxRecDepth 20000 in
set_option maxHeartbeats 1000000 in
theorem put8_any {w : World} {g c : Nat} {A : Option Addr} {l : List Nat} (h : EncAt w g A c l) (v : Nat) (hv : v < 256) (hs : l.length ≤ 70368744177000) :
    Calls Tryd.prog 33 #[.pointer (some ⟨g, 0, none⟩), .int .u8 (v : Int)] w fun e w' => (∃ v, e = .returned v) ∧ ∃ A' c', EncAt w' g A' c' (l ++ fixF 1 v) ∧ EncR g w A w' A' := by
  have h' := Lib.hid h
  obtain ⟨U, hU⟩ : ∃ U, v = U := ⟨_, rfl⟩
  rw [hU]
  rw [hU] at hv
  have hm : (U : Int) % 18446744073709551616 = (U : Int) := by omega
  obtain ⟨V, hV⟩ : ∃ V, Hid (∀ _ : Unit, fixF 1 U = V) := ⟨_, Lib.hid fun _ => rfl⟩
  rw [hV.out ()]
  clear h
  go_enter Tryd.func33, Tryd.ntmps33
  go_wp2_with fail
  refine (ours_any h'.out).mono ?_
  rintro e w' ⟨⟨v0, rfl⟩, rfl⟩
  go_wp2_with fail
  refine (width8_any w).mono ?_
  rintro e w' ⟨rfl, rfl⟩
  go_wp2_with fail
  go_loopw [4, 12] (fun uv iv wr => ∃ (j u : Nat) (acc : List Nat) (A' : Option Addr) (c' : Nat), j ≤ 1 ∧ iv = .int .i64 (j : Int) ∧ uv = .int .u64 (u : Int) ∧ acc.length = j ∧ Hid (acc ++ fixF (1 - j) u = V) ∧ Hid (EncAt wr g A' c' (l ++ acc)) ∧ Hid (EncR g w A wr A')) (fun _ iv _ => 1 - (intOf iv).toNat)
  case atStart => exact ⟨0, U, [], A, c, by omega, rfl, rfl, rfl, Lib.hid (hV.out ()), Lib.hid (by rw [List.append_nil]; exact h'.out), Lib.hid (EncR.refl g w A)⟩
  case round =>
    obtain ⟨j, u, acc, A1, c1, hj, rfl, rfl, hal, hu, he, hr⟩ := hrel
    by_cases hlt : j < 1
    · obtain ⟨n, hn⟩ : ∃ n, Hid (∀ _ : Unit, (l ++ acc).length = n) := ⟨_, Lib.hid fun _ => rfl⟩
      have hnl : n ≤ 70368744177010 := by rw [← hn.out (), List.length_append]; omega
      have c0 := he.out.c0
      have fz := he.out.fz 0
      rw [hn.out ()] at c0
      have ho : Hid (Own wr (g + 1) 5 1 A1 n c1 (u8s (l ++ acc))) := Lib.hid (by have := he.out.own; rwa [hn.out ()] at this)
      have hgl := Lib.hid (Nat.succ_le_of_lt he.out.lt)
      obtain ⟨y, hy⟩ : ∃ y, Hid (u % 256 = y) := ⟨_, Lib.hid rfl⟩
      have hyz : (u : Int) % 256 = (y : Int) := by rw [← hy.out]; omega
      have hnx : Hid ((acc ++ [y]) ++ fixF (1 - (j + 1)) (u / 256) = V) := Lib.hid (by
        have := hu.out
        rw [show 1 - j = (1 - (j + 1)) + 1 by omega, fixF, hy.out] at this
        rw [List.append_assoc]
        exact this)
      go_wp2_with (first | (at_builtin; refine wpList_app1 elB _ #[_] rfl rfl _ _ rfl rfl ho.out rfl (by intro u hu; simp at hu; subst hu; rfl) (by unfold maxLen; omega) (by omega) hgl.out (n + 1) rfl _ rfl ?_; intro A2 c2 w2 o2 at2 _; have hp := Lib.hid (he.out.one at2 (by rw [hn.out ()]) o2); have hm2 := he.out.mid at2; have m0 := hm2.1; have m1 := hm2.2; rw [hn.out ()] at m0; clear hm2 o2 at2 c0 fz))
      go_roundw
      case rel => exact ⟨j + 1, u / 256, acc ++ [y], A2, c2, by omega, by go_num, by go_num, by simp [hal], hnx, Lib.hid (by rw [← List.append_assoc]; exact hp.out.1), Lib.hid (hr.out.trans hp.out.2)⟩
      case measure => simp [intOf]; omega
    · have hfin : Hid (acc = V) := Lib.hid (by
        have := hu.out
        rw [show 1 - j = 0 by omega, fixF, List.append_nil] at this
        exact this)
      go_wp2_with fail
      go_end0
      exact ⟨⟨_, rfl⟩, A1, c1, by rw [← hfin.out]; exact he.out, hr.out⟩

set_option maxRecDepth 20000 in
set_option maxHeartbeats 1000000 in
theorem put64_any {w : World} {g c : Nat} {A : Option Addr} {l : List Nat} (h : EncAt w g A c l) (v : Int) (hs : l.length ≤ 70368744177000) :
    Calls Tryd.prog 38 #[.pointer (some ⟨g, 0, none⟩), .int .i64 v] w fun e w' => (∃ v, e = .returned v) ∧ ∃ A' c', EncAt w' g A' c' (l ++ fixF 8 (v % 18446744073709551616).toNat) ∧ EncR g w A w' A' := by
  have h' := Lib.hid h
  obtain ⟨U, hU⟩ : ∃ U, (v % 18446744073709551616).toNat = U := ⟨_, rfl⟩
  rw [hU]
  have hm : IntKind.u64.wrap v = (U : Int) := by rw [IntKind.wrap_u64]; omega
  obtain ⟨V, hV⟩ : ∃ V, Hid (∀ _ : Unit, fixF 8 U = V) := ⟨_, Lib.hid fun _ => rfl⟩
  rw [hV.out ()]
  clear h
  go_enter Tryd.func38, Tryd.ntmps38
  go_wp2_with fail
  refine (ours_any h'.out).mono ?_
  rintro e w' ⟨⟨v0, rfl⟩, rfl⟩
  go_wp2_with fail
  refine (width64_any w).mono ?_
  rintro e w' ⟨rfl, rfl⟩
  go_wp2_with fail
  go_loopw [4, 12] (fun uv iv wr => ∃ (j u : Nat) (acc : List Nat) (A' : Option Addr) (c' : Nat), j ≤ 8 ∧ iv = .int .i64 (j : Int) ∧ uv = .int .u64 (u : Int) ∧ acc.length = j ∧ Hid (acc ++ fixF (8 - j) u = V) ∧ Hid (EncAt wr g A' c' (l ++ acc)) ∧ Hid (EncR g w A wr A')) (fun _ iv _ => 8 - (intOf iv).toNat)
  case atStart => exact ⟨0, U, [], A, c, by omega, rfl, rfl, rfl, Lib.hid (hV.out ()), Lib.hid (by rw [List.append_nil]; exact h'.out), Lib.hid (EncR.refl g w A)⟩
  case round =>
    obtain ⟨j, u, acc, A1, c1, hj, rfl, rfl, hal, hu, he, hr⟩ := hrel
    by_cases hlt : j < 8
    · obtain ⟨n, hn⟩ : ∃ n, Hid (∀ _ : Unit, (l ++ acc).length = n) := ⟨_, Lib.hid fun _ => rfl⟩
      have hnl : n ≤ 70368744177010 := by rw [← hn.out (), List.length_append]; omega
      have c0 := he.out.c0
      have fz := he.out.fz 0
      rw [hn.out ()] at c0
      have ho : Hid (Own wr (g + 1) 5 1 A1 n c1 (u8s (l ++ acc))) := Lib.hid (by have := he.out.own; rwa [hn.out ()] at this)
      have hgl := Lib.hid (Nat.succ_le_of_lt he.out.lt)
      obtain ⟨y, hy⟩ : ∃ y, Hid (u % 256 = y) := ⟨_, Lib.hid rfl⟩
      have hyz : (u : Int) % 256 = (y : Int) := by rw [← hy.out]; omega
      have hnx : Hid ((acc ++ [y]) ++ fixF (8 - (j + 1)) (u / 256) = V) := Lib.hid (by
        have := hu.out
        rw [show 8 - j = (8 - (j + 1)) + 1 by omega, fixF, hy.out] at this
        rw [List.append_assoc]
        exact this)
      go_wp2_with (first | (at_builtin; refine wpList_app1 elB _ #[_] rfl rfl _ _ rfl rfl ho.out rfl (by intro u hu; simp at hu; subst hu; rfl) (by unfold maxLen; omega) (by omega) hgl.out (n + 1) rfl _ rfl ?_; intro A2 c2 w2 o2 at2 _; have hp := Lib.hid (he.out.one at2 (by rw [hn.out ()]) o2); have hm2 := he.out.mid at2; have m0 := hm2.1; have m1 := hm2.2; rw [hn.out ()] at m0; clear hm2 o2 at2 c0 fz))
      go_roundw
      case rel => exact ⟨j + 1, u / 256, acc ++ [y], A2, c2, by omega, by go_num, by go_num, by simp [hal], hnx, Lib.hid (by rw [← List.append_assoc]; exact hp.out.1), Lib.hid (hr.out.trans hp.out.2)⟩
      case measure => simp [intOf]; omega
    · have hfin : Hid (acc = V) := Lib.hid (by
        have := hu.out
        rw [show 8 - j = 0 by omega, fixF, List.append_nil] at this
        exact this)
      go_wp2_with fail
      go_end0
      exact ⟨⟨_, rfl⟩, A1, c1, by rw [← hfin.out]; exact he.out, hr.out⟩

end Go.Proofs.YtkjndgapejbgcaaDoor

namespace Go.Proofs.YtkjndgapejbgcaaDoor
open Go.RowKit

/-- A string's bytes. -/
def strL (s : ByteArray) : List Nat := s.data.toList.map fun b => b.toNat
theorem strL_length (s : ByteArray) : (strL s).length = s.size := by
  rw [strL, List.length_map, Array.length_toList]
  rfl
theorem strL_cells (s : ByteArray) : Lib.strCells s = u8s (strL s) := by simp [Lib.strCells, u8s, strL]
theorem strL_lt (s : ByteArray) : ∀ x ∈ strL s, x < 256 := by
  intro x hx
  obtain ⟨b, _, rfl⟩ := List.mem_map.1 hx
  exact b.toNat_lt

theorem run_appS {P : Program} {t u e : TypeId} (E : ElemOk P t e (.int .u8 0) 1 1) (hu : P.underlying u = some .string) (ty : TypeId) (w : World)
    {B : Nat} {A : Option Addr} {n c : Nat} {xs : List Value} (hown : Own w B e 1 A n c xs) (s : ByteArray)
    (hn : n + s.size ≤ maxLen) (hb : n + s.size ≤ 140737488355328) (hB : B ≤ w.heap.size) :
    ∃ A' c' w', (Builtin.append_ #[t, u] ty #[.slice A n c, .string s]).run P w = .ok (.slice A' (n + s.size) c') w' ∧ Own w' B e 1 A' (n + s.size) c' (xs ++ Lib.strCells s) ∧ AppAt w w' A A' := by
  obtain ⟨i, hi, hz0, hz1, hz2⟩ := info_parts E.hi
  have hxl : xs.length = n := by simpa using hown.1
  have hlen : (xs ++ Lib.strCells s).length = (n + s.size) * 1 := by rw [List.length_append, hxl, Lib.strCells_length, Nat.mul_one]
  have grown : ∀ (old : Nat), old < n + s.size →
      Own (w.drew.alloc (.cells (xs.toArray ++ (Lib.strCells s).toArray ++ Builtin.zeroCells (Value.int .u8 0).cells (grownCap w (n + s.size) old e - (n + s.size))) e)) B e 1 (some ⟨w.heap.size, 0, none⟩) (n + s.size) (grownCap w (n + s.size) old e) (xs ++ Lib.strCells s) ∧
      w.grownBy (w.drew.alloc (.cells (xs.toArray ++ (Lib.strCells s).toArray ++ Builtin.zeroCells (Value.int .u8 0).cells (grownCap w (n + s.size) old e - (n + s.size))) e)) none := by
    intro old ho
    have hge := grownCap_ge w (n + s.size) old e
    have hcm : grownCap w (n + s.size) old e ≤ maxLen := grownCap_le_maxLen w (n + s.size) old e hn
    refine ⟨⟨hlen, .inr ⟨w.heap.size, _, _, rfl, hB, heap_alloc_new w.drew _, hge, hcm, ?_, ?_⟩⟩, ⟨rfl, rfl, rfl, by simp, fun k hk _ => heap_alloc_old w.drew _ hk⟩⟩
    · have hz1 : (Value.int IntKind.u8 0).cells.size = 1 := rfl
      simp only [Array.size_append, List.size_toArray, size_zeroCells, hz1, hxl, Lib.strCells_length]
      omega
    · simp only [Array.toList_append, List.append_assoc]
      rw [← List.append_assoc, ← hlen]
      exact List.take_left
  rcases hown.2 with ⟨hv, hn0⟩ | ⟨g0, cap, cur, hv, hbg, hg, hnc, hcm, hcs, htake⟩
  · injection hv with hA _ hc0
    subst hA hc0 hn0
    have hx : xs = [] := List.eq_nil_of_length_eq_zero hxl
    subst hx
    by_cases hm : s.size = 0
    · have hn : Lib.strCells s = [] := List.eq_nil_of_length_eq_zero (by rw [Lib.strCells_length]; exact hm)
      refine ⟨none, 0, w, ?_, by rw [hm, hn]; exact World.ownsRow_nil w B e 1, .inl ⟨rfl, World.grownBy.refl w _⟩⟩
      have hf := Lib.run_firstCells_string (P := P) w 1 s
      rw [hm] at hf
      simp [Builtin.append_, run_underlying E.ht, run_underlying hu, sizeOf, typeInfo, hi, hz1, Builtin.lenOf, hm, hf]
    · have hr := run_append_nil_string (P := P) w t u ty e i (.int .u8 0) E.ht hu hi hz0 s (by omega) (by omega) (by rw [hz2]; omega)
      have hgr := grown 0 (by omega)
      simp only [Nat.zero_add, List.nil_append, Array.empty_append] at hgr ⊢
      have e1 : (s.data.map fun b => Value.int .u8 b.toNat) = (Lib.strCells s).toArray := by
        apply Array.ext'
        simp [Lib.strCells]
      rw [e1] at hr
      exact ⟨_, _, _, hr, hgr.1, .inr ⟨w.heap.size, rfl, Nat.le_refl _, hgr.2⟩⟩
  · injection hv with hA _ hc0
    subst hA hc0
    by_cases hroom : n + s.size ≤ c
    · have hcs' : cur.size = c := by simpa using hcs
      have hr := Lib.run_append_room_string (P := P) w t u ty e i E.ht hu hi hz1 g0 n c cur hg s hroom (by omega)
      refine ⟨_, _, _, hr, ⟨hlen, .inr ⟨g0, c, _, rfl, hbg, setRow_heap w g0 cur _ e _ hg, hroom, hcm, ?_, ?_⟩⟩, .inl ⟨rfl, ⟨rfl, rfl, rfl, by simp, fun k _ hk => setRow_other w g0 k _ (fun e => hk (by simp [blockOf, e]))⟩⟩⟩
      · simp only [List.size_toArray, List.length_append, List.length_take, List.length_drop, Array.length_toList, Lib.strCells_length]
        omega
      · have ht' : cur.toList.take n = xs := by simpa using htake
        rw [ht', ← hlen]
        exact List.take_left
    · have holds : ∀ j u, xs[j]? = some u → w.cell? ((⟨g0, 0, none⟩ : Addr).add j) = some u := World.ownsRow.cells hown (g := g0) rfl
      have hr := Lib.run_append_grow_string (P := P) w t u ty e i (.int .u8 0) E.ht hu hi hz0 ⟨g0, 0, none⟩ n c xs (by rw [hz1]; simpa using hxl) holds s (by omega) (by unfold maxLen at hn; omega) (by rw [hz2]; exact growslice_fits (by omega) (by omega))
      have hgr := grown c (by omega)
      exact ⟨_, _, _, hr, hgr.1, .inr ⟨w.heap.size, rfl, Nat.le_refl _, hgr.2⟩⟩

section
variable {P : Program} {ops : Array Oper} {rest : List Oper} {o : Oper} {a : Act} {Q : Exit → Act → World → Prop}
/-- append(b, s...) of a string's bytes. -/
theorem wpList_appS {t u e : TypeId} (E : ElemOk P t e (.int .u8 0) 1 1) (hu : P.underlying u = some .string) (w : World) (hgd : o.guard = none) (sl x : Operand)
    (ho : o.op = .call { callee := .builtin .append, args := #[sl, x], argTypes := #[t, u] })
    {B : Nat} {A : Option Addr} {n c : Nat} {l : List Nat} (hs : a.eval sl = .slice A n c) (hown : Own w B e 1 A n c (u8s l)) (s : ByteArray) (hx : a.eval x = .string s)
    (hn : n + s.size ≤ 70368744177664) (hB : B ≤ w.heap.size) (N : Nat) (hN : n + s.size = N)
    (h : ∀ A' c' w', Own w' B e 1 A' N c' (u8s (l ++ strL s)) → AppAt w w' A A' → Below B w w' →
      wpList P ops Q rest (a.put o.dst (.slice A' N c')) w') : wpList P ops Q (o :: rest) a w := by
  subst hN
  refine wpList_plain hgd fun K hK => ?_
  obtain ⟨A', c', w', hrun, h2, h3⟩ := run_appS (P := P) E hu o.type w hown s (by unfold maxLen; omega) (by omega) hB
  rw [strL_cells, ← u8s_append] at h2
  unfold Oper.wp execOp
  simp only [ho, resolve, invoke, builtin, Sem.run_bind, Sem.run_pure, Result.andThen_ok, List.map_toArray, List.map_cons, List.map_nil, hs, hx, hrun]
  exact hK _ _ (h A' c' w' h2 h3 (h3.below hown hB))
end
end Go.Proofs.YtkjndgapejbgcaaDoor

namespace Go.Proofs.YtkjndgapejbgcaaDoor
open Go.Shelf
def laysSlK4_ren : Go.Shelf.Ren := ⟨fun | 4 => 70 | n => n, fun | 22 => 24 | 4 => 4 | 5 => 5 | n => n, fun | n => n⟩
theorem laysSlK4 : Go.Proofs.SlLaysK.n4 Tryd.prog laysSlK4_ren := {
  mixed := by kernel_rfl
  f4 := Tryd.func70.trans (congrArg some (by kernel_rfl))
  t4 := Tryd.underlying4
  a4 := Tryd.isAgg4
  z4 := Tryd.sizeOf4
  v4 := Tryd.zeroValue4
  t22 := Tryd.underlying24
  a22 := Tryd.isAgg24
  z22 := Tryd.sizeOf24
  v22 := Tryd.zeroValue24
  t5 := Tryd.underlying5
  i5 := by kernel_rfl }
open Go.RowKit Go.Lib in
theorem bytes_Clone_at (a : Addr) (n c : Nat) (xs : List Int) (w : World) (hx : xs.length = n) (hbig : n ≤ 140737488355328) (hc : ∀ i, i < n → w.cell? (a.add i) = some (.int .u8 (xs.getD i 0))) :
    Calls Tryd.prog 70 #[.slice (some a) n c] w fun e w' => ∃ v', e = .returned v' ∧ w'.ownsRow w.heap.size 5 1 v' n (xs.map (Value.int .u8)) ∧ v' ≠ .slice none 0 0 ∧ Below w.heap.size w w' := Any.bytes_Clone_at laysSlK4 a n c xs w hx hbig hc
open Go.RowKit Go.Lib in
theorem bytes_Clone_nil (n c : Nat) (w : World) :
    Calls Tryd.prog 70 #[.slice none n c] w fun e w' => e = .returned (.slice none 0 0) ∧ w' = w := Any.bytes_Clone_nil laysSlK4 n c w
end Go.Proofs.YtkjndgapejbgcaaDoor

namespace Go.Proofs.YtkjndgapejbgcaaDoor
open Go.RowKit
set_option linter.unusedSimpArgs false

/-- A fresh encoder. -/
structure EncZ (w : World) (g : Nat) : Prop where
  blk : w.heap[g]? = some (.cells #[.slice none 0 0, .pointer none] 59 (0, 0))
theorem EncZ.c0 {w : World} {g : Nat} (h : EncZ w g) : w.cell? ⟨g, 0, none⟩ = some (.slice none 0 0) := cell_of_row _ _ _ _ _ _ h.blk
theorem EncZ.c1 {w : World} {g : Nat} (h : EncZ w g) : w.cell? ⟨g, 1, none⟩ = some (.pointer none) := cell_of_row _ _ _ _ _ _ h.blk
theorem EncZ.fz {w : World} {g : Nat} (h : EncZ w g) (j : Nat) : w.frozen? ⟨g, j, none⟩ = false := by simp [World.frozen?, h.blk]
theorem EncZ.own {w : World} {g : Nat} (h : EncZ w g) : EncAt ((w.setCell ⟨g, 0, none⟩ (.slice none 0 0)).setCell ⟨g, 1, none⟩ (.pointer (some ⟨g, 0, none⟩))) g none 0 [] ∧
    EncR g w none ((w.setCell ⟨g, 0, none⟩ (.slice none 0 0)).setCell ⟨g, 1, none⟩ (.pointer (some ⟨g, 0, none⟩))) none := by
  have h1 := heap_setCell_same w g 0 _ _ (.slice none 0 0) h.blk
  have h2 := heap_setCell_same _ g 1 _ _ (.pointer (some ⟨g, 0, none⟩)) h1
  refine ⟨⟨by rw [h2]; simp, Own.nil _ _ _ _⟩, ⟨rfl, rfl, rfl, by simp, fun k hk hkg _ => ?_, .inl rfl⟩⟩
  rw [heap_setCell_other _ _ k _ hkg, heap_setCell_other _ _ k _ hkg]
theorem ptr_neqIn (d : Nat) (a : Addr) (w : World) : (Op.equalIn (d + 1) 57 (.pointer none) (.pointer (some a))).run Tryd.prog w = .ok false w := by
  have hs : (sizeOf 59).run Tryd.prog w = .ok 2 w := Tryd.sizeOf59 w
  simp [Op.equalIn, run_underlying Tryd.underlying57, hs, sameAddr]
theorem ptr_neqN (a : Addr) (w : World) : (binOp .neq 57 (.pointer none) (.pointer (some a))).run Tryd.prog w = .ok (.bool true) w := by
  have he : (Op.equal 57 (.pointer none) (.pointer (some a))).run Tryd.prog w = .ok false w := ptr_neqIn 9999 a w
  simp only [binOp]
  simp [he]

set_option maxRecDepth 20000 in
theorem oursF_any {w : World} {g : Nat} (h : EncZ w g) : Calls Tryd.prog 67 #[.pointer (some ⟨g, 0, none⟩)] w fun e w' => (∃ v, e = .returned v) ∧ EncAt w' g none 0 [] ∧ EncR g w none w' none := by
  have c0 := h.c0
  have c1 := h.c1
  have f0 := h.fz 0
  have f1 := h.fz 1
  have hq := ptr_neqN ⟨g, 0, none⟩
  have ho := Lib.hid h.own
  clear h
  go_enter Tryd.func67, Tryd.ntmps67
  go_wp2_with fail
  refine (bytes_Clone_nil 0 0 _).mono ?_
  rintro e w' ⟨rfl, rfl⟩
  go_wp2_with fail
  go_end0
  exact ⟨⟨_, rfl⟩, ho.out⟩

set_option maxRecDepth 20000 in
set_option maxHeartbeats 1000000 in
theorem put8F_any {w : World} {g : Nat} (h : EncZ w g) (v : Nat) (hv : v < 256) :
    Calls Tryd.prog 33 #[.pointer (some ⟨g, 0, none⟩), .int .u8 (v : Int)] w fun e w' => (∃ v, e = .returned v) ∧ ∃ A' c', EncAt w' g A' c' (fixF 1 v) ∧ EncR g w none w' A' := by
  have h' := Lib.hid h
  obtain ⟨U, hU⟩ : ∃ U, v = U := ⟨_, rfl⟩
  rw [hU]
  rw [hU] at hv
  have hm : (U : Int) % 18446744073709551616 = (U : Int) := by omega
  obtain ⟨V, hV⟩ : ∃ V, Hid (∀ _ : Unit, fixF 1 U = V) := ⟨_, Lib.hid fun _ => rfl⟩
  rw [hV.out ()]
  clear h
  go_enter Tryd.func33, Tryd.ntmps33
  go_wp2_with fail
  refine (oursF_any h'.out).mono ?_
  rintro e w1 ⟨⟨v0, rfl⟩, he0, hr0⟩
  have he0' := Lib.hid he0
  have hr0' := Lib.hid hr0
  clear he0 hr0 h'
  go_wp2_with fail
  refine (width8_any w1).mono ?_
  rintro e w' ⟨rfl, rfl⟩
  go_wp2_with fail
  go_loopw [4, 12] (fun uv iv wr => ∃ (j u : Nat) (acc : List Nat) (A' : Option Addr) (c' : Nat), j ≤ 1 ∧ iv = .int .i64 (j : Int) ∧ uv = .int .u64 (u : Int) ∧ acc.length = j ∧ Hid (acc ++ fixF (1 - j) u = V) ∧ Hid (EncAt wr g A' c' acc) ∧ Hid (EncR g w none wr A')) (fun _ iv _ => 1 - (intOf iv).toNat)
  case atStart => exact ⟨0, U, [], none, 0, by omega, rfl, rfl, rfl, Lib.hid (hV.out ()), he0', hr0'⟩
  case round =>
    obtain ⟨j, u, acc, A1, c1, hj, rfl, rfl, hal, hu, he, hr⟩ := hrel
    by_cases hlt : j < 1
    · obtain ⟨n, hn⟩ : ∃ n, Hid (∀ _ : Unit, acc.length = n) := ⟨_, Lib.hid fun _ => rfl⟩
      have hnl : n ≤ 70368744177010 := by rw [← hn.out ()]; omega
      have c0 := he.out.c0
      have fz := he.out.fz 0
      rw [hn.out ()] at c0
      have ho : Hid (Own wr (g + 1) 5 1 A1 n c1 (u8s acc)) := Lib.hid (by have := he.out.own; rwa [hn.out ()] at this)
      have hgl := Lib.hid (Nat.succ_le_of_lt he.out.lt)
      obtain ⟨y, hy⟩ : ∃ y, Hid (u % 256 = y) := ⟨_, Lib.hid rfl⟩
      have hyz : (u : Int) % 256 = (y : Int) := by rw [← hy.out]; omega
      have hnx : Hid ((acc ++ [y]) ++ fixF (1 - (j + 1)) (u / 256) = V) := Lib.hid (by
        have := hu.out
        rw [show 1 - j = (1 - (j + 1)) + 1 by omega, fixF, hy.out] at this
        rw [List.append_assoc]
        exact this)
      go_wp2_with (first | (at_builtin; refine wpList_app1 elB _ #[_] rfl rfl _ _ rfl rfl ho.out rfl (by intro u hu; simp at hu; subst hu; rfl) (by unfold maxLen; omega) (by omega) hgl.out (n + 1) rfl _ rfl ?_; intro A2 c2 w2 o2 at2 _; have hp := Lib.hid (he.out.one at2 (by rw [hn.out ()]) o2); have hm2 := he.out.mid at2; have m0 := hm2.1; have m1 := hm2.2; rw [hn.out ()] at m0; clear hm2 o2 at2 c0 fz))
      go_roundw
      case rel => exact ⟨j + 1, u / 256, acc ++ [y], A2, c2, by omega, by go_num, by go_num, by simp [hal], hnx, Lib.hid hp.out.1, Lib.hid (hr.out.trans hp.out.2)⟩
      case measure => simp [intOf]; omega
    · have hfin : Hid (acc = V) := Lib.hid (by
        have := hu.out
        rw [show 1 - j = 0 by omega, fixF, List.append_nil] at this
        exact this)
      go_wp2_with fail
      go_end0
      exact ⟨⟨_, rfl⟩, A1, c1, by rw [← hfin.out]; exact he.out, hr.out⟩

set_option maxRecDepth 20000 in
set_option maxHeartbeats 1000000 in
theorem text_any {w : World} {g c : Nat} {A : Option Addr} {l : List Nat} (h : EncAt w g A c l) (s : ByteArray) (hss : s.size ≤ 70368644000000) (hs : l.length ≤ 100000000) :
    Calls Tryd.prog 37 #[.pointer (some ⟨g, 0, none⟩), .string s] w fun e w' => (∃ v, e = .returned v) ∧ ∃ A' c', EncAt w' g A' c' (l ++ (varL s.size ++ strL s)) ∧ EncR g w A w' A' := by
  have hv := var_any h s.size (by omega) (by omega)
  have hv' := Lib.hid hv
  have hm : IntKind.u64.wrap ((s.size : Nat) : Int) = ((s.size : Nat) : Int) := by rw [IntKind.wrap_u64]; omega
  have hl2 : (l ++ varL s.size).length ≤ 100000010 := by
    rw [List.length_append]
    have := varF_length 10 s.size
    unfold varL
    omega
  clear hv h
  go_enter Tryd.func37, Tryd.ntmps37
  go_wp2_with fail
  refine hv'.out.mono ?_
  rintro e w1 ⟨⟨v, rfl⟩, A1, c1, he, hr⟩
  obtain ⟨n, hn⟩ : ∃ n, Hid (∀ _ : Unit, (l ++ varL s.size).length = n) := ⟨_, Lib.hid fun _ => rfl⟩
  have c0 := he.c0
  have fz := he.fz 0
  rw [hn.out ()] at c0 hl2
  have ho : Hid (Own w1 (g + 1) 5 1 A1 n c1 (u8s (l ++ varL s.size))) := Lib.hid (by have := he.own; rwa [hn.out ()] at this)
  have hgl := Lib.hid (Nat.succ_le_of_lt he.lt)
  have he' := Lib.hid he
  have hr' := Lib.hid hr
  clear he hr
  go_wp2_with (first | (at_builtin; refine wpList_appS elB Tryd.underlying9 _ rfl _ _ rfl rfl ho.out s rfl (by omega) hgl.out (n + s.size) rfl ?_; intro A2 c2 w2 o2 at2 _; have hp := Lib.hid (he'.out.put at2 (by rw [List.length_append, hn.out (), strL_length]) o2); have hm2 := he'.out.mid at2; have m0 := hm2.1; have m1 := hm2.2; rw [hn.out ()] at m0; clear hm2 o2 at2 c0 fz))
  go_end0
  exact ⟨⟨_, rfl⟩, A2, c2, by rw [← List.append_assoc]; exact hp.out.1, hr'.out.trans hp.out.2⟩

/-- bytes.Clone of bytes that are there. -/
theorem clone_any {w : World} {B : Nat} {A : Option Addr} {l : List Nat} (hb : Byt w B A l) (n c : Nat) (hn : l.length = n) (h0 : 0 < n) (hs : n ≤ 140737488355328) :
    Calls Tryd.prog 70 #[.slice A n c] w fun e w' => (∃ A' c', e = .returned (.slice A' n c') ∧ Own w' w.heap.size 5 1 A' n c' (u8s l)) ∧ Below w.heap.size w w' := by
  subst hn
  obtain ⟨b, off, rfl, _, hc⟩ := hb h0
  refine (bytes_Clone_at ⟨b, off, none⟩ l.length c (l.map fun x : Nat => (x : Int)) w (by simp) hs ?_).mono ?_
  · intro i hi
    rw [Addr.add_lit, hc i hi]
    simp [List.getD, List.getElem?_eq_getElem hi]
  · rintro e w' ⟨v', rfl, hown, _, hbel⟩
    obtain ⟨A', c', rfl⟩ := own_form hown
    have e1 : (l.map fun x : Nat => (x : Int)).map (Value.int .u8) = u8s l := by simp [u8s]
    rw [e1] at hown
    exact ⟨⟨A', c', rfl, hown⟩, hbel⟩

theorem encbytes_any {w : World} {g c : Nat} {A : Option Addr} {l : List Nat} (h : EncAt w g A c l) (h0 : 0 < l.length) (hs : l.length ≤ 140737488355328) :
    Calls Tryd.prog 40 #[.pointer (some ⟨g, 0, none⟩)] w fun e w' => (∃ A' c', e = .returned (.slice A' l.length c') ∧ Own w' w.heap.size 5 1 A' l.length c' (u8s l)) ∧ Below w.heap.size w w' := by
  have c0 := h.c0
  have hcl := Lib.hid (clone_any h.own.byt l.length c rfl h0 hs)
  obtain ⟨n, hn⟩ : ∃ n, Hid (∀ _ : Unit, l.length = n) := ⟨_, Lib.hid fun _ => rfl⟩
  rw [hn.out ()] at c0 hcl ⊢
  clear h
  go_enter Tryd.func40, Tryd.ntmps40
  go_wp2_with fail
  refine hcl.out.mono ?_
  rintro e w' ⟨⟨A', c', rfl, o⟩, b⟩
  have o' := Lib.hid o
  have b' := Lib.hid b
  clear o b
  go_wp2_with fail
  go_ret
  exact ⟨⟨A', c', rfl, o'.out⟩, b'.out⟩

end Go.Proofs.YtkjndgapejbgcaaDoor

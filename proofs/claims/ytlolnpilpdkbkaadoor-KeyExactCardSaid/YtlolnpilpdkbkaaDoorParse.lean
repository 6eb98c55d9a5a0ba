/- Parse. -/
import Derived.Test.YtlolnpilpdkbkaaDoorCmp
import Derived.Laws.ResultCell
namespace Go.Proofs.YtlolnpilpdkbkaaDoor
open Go.RowKit
set_option linter.unusedSimpArgs false

def good (s : List UInt8) : Bool := decide (s.length = 64) && allDig s
def parseR (s : List UInt8) : List Nat := if good s then parsedL s else zeros 32
def parseE (s : List UInt8) : Nat := if good s then 0 else 30

theorem results_row_tmp {P : Program} {fn : Func} {p u : Tmp} {ty : TypeId} (h : fn.results = #[.cell p ty, .tmp u]) (tmps : Array Value) (w : World) (g : Nat) (t : TypeId) (cs : Array Value) (fr : Nat × Nat) (d : TypeDesc) (x : Value)
    (hp : tmps.getD p undef = .pointer (some ⟨g, 0, none⟩)) (hx : tmps.getD u undef = x) (hg : w.heap[g]? = some (.cells cs t fr))
    (hu : P.underlying ty = some d) (hd : (match d with | .struct _ | .array _ _ => true | _ => false) = true) (hi : (P.info? ty).map (·.size) = some cs.size) :
    (results fn tmps).run P w = .ok (.tuple #[.agg cs, x]) w := by
  rw [results_cell_tmp h, hp, hx]
  simp [asAddr, run_loadVar_row w g t ty cs fr d hg hu hd hi]
theorem index_str {s : ByteArray} {k : Nat} {c : UInt8} (h : k < s.size) (hc : s[k] = c) (w : World) : (Instr.index 9 (.string s) (.int .i64 (k : Int))).run Tryd.prog w = .ok (.int .u8 (c.toNat : Int)) w := by
  have h1 : (0 : Int) ≤ (k : Int) := by omega
  have h2 : s[k]? = some c := by rw [getElem?_pos s k h, hc]
  simp [Instr.index, run_underlying Tryd.underlying9, asIntOf, h2]

theorem or16 : ∀ n1 : Nat, n1 < 16 → ∀ n2 : Nat, n2 < 16 → bits .or .i64 ((n1 : Int) * 16) (n2 : Int) = ((n1 * 16 + n2 : Nat) : Int) := by decide

/-- What stands while the bytes are laid. -/
structure PX (w wr : World) (s : List UInt8) (k : Nat) : Prop where
  bel : Below w.heap.size w wr
  res : BlkY wr w.heap.size (zeros 32)
  ky : BlkY wr (w.heap.size + 1) ((parsedL s).take k ++ zeros (32 - k))

theorem PX.put {w wr : World} {s : List UInt8} {k y : Nat} (h : PX w wr s k) (hk : k < 32) (hl : (parsedL s).length = 32) (hy : (parsedL s)[k]?.getD 0 = y) : PX w (wr.setCell ⟨w.heap.size + 1, k, none⟩ (.int .u8 (y : Int))).drew s (k + 1) where
  bel := (h.bel.setCell (p := ⟨w.heap.size + 1, k, none⟩) (by simp) _).drew
  res := h.res.far (p := ⟨w.heap.size + 1, k, none⟩) (by simp) _
  ky := by
    have := h.ky.set k y
    have e : ((parsedL s).take k ++ zeros (32 - k)).set k y = (parsedL s).take (k + 1) ++ zeros (32 - (k + 1)) := by
      rw [List.set_append_right _ _ (by simp; omega), List.length_take, hl, Nat.min_eq_left (by omega), Nat.sub_self, List.take_succ_eq_append_getElem (by omega), List.append_assoc]
      congr 1
      rw [List.getElem?_eq_getElem (by omega), Option.getD_some] at hy
      rw [show 32 - k = (32 - (k + 1)) + 1 by omega, zeros, List.replicate_succ, List.set_cons_zero, hy]
      rfl
    rw [e] at this
    exact this
set_option maxRecDepth 100000 in
set_option maxHeartbeats 1000000 in
theorem parse_good (s : ByteArray) (w : World) (hs : s.size = 64) (hd : allDig s.data.toList = true) :
    Calls Tryd.prog 15 #[.string s] w fun e w' => e = .returned (.tuple #[.agg (u8s (parsedL s.data.toList)).toArray, .int .i64 0]) ∧ Below w.heap.size w w' := by
  have hz := zeroKy
  have hi32 : (Tryd.prog.info? 24).map (·.size) = some 32 := by kernel_rfl
  have hi32' := Lib.hid hi32
  have hB : Below w.heap.size w ((w.alloc (.cells (u8s (zeros 32)).toArray 24)).alloc (.cells (u8s (zeros 32)).toArray 24)) := ((Below.refl _ _).alloc (Nat.le_refl _) _).alloc (by simp) _
  have h0' := Lib.hid (PX.mk (s := s.data.toList) (k := 0) hB (heap_alloc2_old w _ _) (heap_alloc2_new w _ _))
  have hd' : Hid (∀ k, (h : k < s.size) → 0 ≤ val s[k]) := Lib.hid fun k h => by
    unfold allDig at hd
    rw [List.all_eq_true] at hd
    simpa using hd s[k] (List.mem_of_getElem? (at_get h))
  have hd2 := Lib.hid hd
  have hA : Calls Tryd.prog 25 #[.string s] (w.alloc (.cells (u8s (zeros 32)).toArray 24)) fun e w' => e = .returned (.bool true) ∧ w' = (w.alloc (.cells (u8s (zeros 32)).toArray 24)) := by
    have := areDigits_any s (w.alloc (.cells (u8s (zeros 32)).toArray 24)) (by omega)
    rwa [hd] at this
  have hA' := Lib.hid hA
  have hpl := Lib.hid (parsedL_length 32 s.data.toList (by rw [← Lib.size_eq, hs]))
  have hpg := Lib.hid (parsedL_get 32 s.data.toList (by rw [← Lib.size_eq, hs]))
  clear hi32 hB hd hA
  go_enter Tryd.func15, Tryd.ntmps15
  go_wp2_with (first | (go_at_call 25; refine hA'.out.mono ?_; rintro e w1 ⟨rfl, rfl⟩))
  generalize ((w.alloc (.cells (u8s (zeros 32)).toArray 24)).alloc (.cells (u8s (zeros 32)).toArray 24)) = w2 at h0' ⊢
  go_loopw [15] (fun i wr => ∃ k : Nat, k ≤ 32 ∧ i = .int .i64 k ∧ Hid (PX w wr s.data.toList k)) (fun i _ => 32 - (intOf i).toNat)
  case atStart => exact ⟨0, by omega, rfl, h0'⟩
  case round =>
    clear h0'
    obtain ⟨k, hk, rfl, hD⟩ := hrel
    by_cases hlt : k < 32
    · have i7 : 2 * k < s.size := by omega
      have i8 : 2 * k + 1 < s.size := by omega
      obtain ⟨c1, hc1⟩ : ∃ c, s[2 * k] = c := ⟨_, rfl⟩
      obtain ⟨c2, hc2⟩ : ∃ c, s[2 * k + 1] = c := ⟨_, rfl⟩
      have hp1 := hd'.out (2 * k) i7
      have hp2 := hd'.out (2 * k + 1) i8
      rw [hc1] at hp1
      rw [hc2] at hp2
      have hix1 := index_str (k := 2 * k) i7 hc1
      have hix2 := index_str (k := 2 * k + 1) i8 hc2
      have hl1 := val_lt _ hp1
      have hl2 := val_lt _ hp2
      obtain ⟨n1, hv1⟩ := Int.eq_ofNat_of_zero_le hp1
      obtain ⟨n2, hv2⟩ := Int.eq_ofNat_of_zero_le hp2
      have hn1 : n1 < 16 := by omega
      have hn2 : n2 < 16 := by omega
      rw [show (((2 * k : Nat) : Int)) = 2 * (k : Int) by omega] at hix1
      rw [show (((2 * k + 1 : Nat) : Int)) = 2 * (k : Int) + 1 by omega] at hix2
      clear hl1 hl2 hp1 hp2
      have hg1 := Lib.hid (at_get i7)
      have hg2 := Lib.hid (at_get i8)
      rw [hc1] at hg1
      rw [hc2] at hg2
      have hs' := Lib.hid hs
      clear hc1 hc2 i7 i8 hs
      have hw1 : IntKind.i64.wrap (2 * (k : Int)) = 2 * (k : Int) := by rw [IntKind.wrap_i64]; omega
      have hw2 : IntKind.i64.wrap (2 * (k : Int) + 1) = 2 * (k : Int) + 1 := by rw [IntKind.wrap_i64]; omega
      have hle : k < ((parsedL s.data.toList).take k ++ zeros (32 - k)).length := by rw [List.length_append, List.length_take, hpl.out]; simp [zeros]; omega
      have q1 := hD.out.ky.cell (k := k) hle
      have qf := hD.out.ky.frozen k
      have k0 : (0 : Int) ≤ (k : Int) := by omega
      have hw3 : IntKind.i64.wrap ((n1 : Int) * 16) = (n1 : Int) * 16 := by rw [IntKind.wrap_i64]; omega
      have hor := or16 n1 hn1 n2 hn2
      have hun : (parsedL s.data.toList)[k]?.getD 0 = n1 * 16 + n2 := by
        rw [hpg.out k hlt, hg1.out, hg2.out]
        simp only [Option.getD_some, unhex, hv1, hv2, Int.toNat_natCast]
      obtain ⟨y, hy⟩ : ∃ y, n1 * 16 + n2 = y := ⟨_, rfl⟩
      rw [hy] at hor hun
      have hwy : IntKind.u8.wrap (y : Int) = (y : Int) := by rw [IntKind.wrap_u8]; omega
      have hD2 := Lib.hid (hD.out.put hlt hpl.out hun)
      clear hle hy hun hD hn1 hn2
      go_wp2_with fail
      go_region_with (go_at_call 26; refine (fd_any _ _).mono ?_; rintro e w1 ⟨rfl, rfl⟩)
      all_goals
        go_wp2_with fail
        go_roundw
        case rel => exact ⟨k + 1, by omega, by go_num, hD2⟩
        case measure => simp [intOf]; omega
    · rw [show k = 32 by omega] at hD
      have hD2 := hD.out
      have hk0' := Lib.hid hD2.res
      have hk1 := hD2.ky
      have hpl2 := hpl.out
      rw [List.take_of_length_le (by omega), show zeros (32 - 32) = [] from rfl, List.append_nil] at hk1
      obtain ⟨F, hF⟩ : ∃ F, Hid (∀ _ : Unit, parsedL s.data.toList = F) := ⟨_, Lib.hid fun _ => rfl⟩
      rw [hF.out ()] at hk1 hpl2
      have hk1' := Lib.hid hk1
      have hB2 := Lib.hid hD2.bel
      have hs32 : (u8s F).toArray.size = 32 := by simp [u8s, hpl2]
      have hz32 : (u8s (zeros 32)).toArray.size = 32 := by simp [u8s, zeros]
      have hone : (u8s F).toArray.all (·.oneCell') = true := all_oneCell_toArray u8s_one
      clear hk1 hD2 hD hpl2
      go_wp2_with (first
        | (refine wpList_load_row rfl 24 _ rfl (w.heap.size + 1) rfl 24 (u8s F).toArray (0, 0) _ hk1'.out Tryd.underlying24 rfl (by rw [hs32]; exact hi32'.out) ?_)
        | (refine wpList_store_row rfl 24 _ _ rfl w.heap.size (u8s F).toArray rfl rfl 24 _ hk0'.out (by rw [hs32]; exact hi32'.out) (by rw [hs32, hz32]) hone ?_))
      have hset := setRow_heap wr w.heap.size _ (u8s F).toArray 24 _ hk0'.out
      refine bodyPost_ret (results_row_tmp rfl _ _ w.heap.size 24 (u8s F).toArray (0, 0) _ _ rfl rfl hset Tryd.underlying24 rfl (by rw [hs32]; exact hi32'.out)) rfl ⟨?_, setRow_below hB2.out (Nat.le_refl _) _⟩
      rw [hF.out ()]
      rfl
end Go.Proofs.YtlolnpilpdkbkaaDoor

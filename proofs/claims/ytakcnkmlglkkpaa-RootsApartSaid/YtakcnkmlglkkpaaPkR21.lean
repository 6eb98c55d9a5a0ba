/- Roots as text. Rows of roots as text; what is written over. A list of roots that was answered, written over and grown. -/
import Derived.Test.YtakcnkmlglkkpaaPkR20
import Derived.Laws.BytesString
import Derived.Laws.IdiomStrings
import Derived.BigRegion

namespace Go.Proofs.Ytakcnkmlglkkpaa
open Go.RowKit
set_option linter.unusedSimpArgs false
set_option linter.unusedVariables false

/-- The text of some bytes. -/
def strB (l : List Nat) : ByteArray := ⟨(l.map fun x : Nat => UInt8.ofNat x).toArray⟩
theorem fold_push : ∀ (l : List Nat) (a : ByteArray), (l.map fun x : Nat => (x : Int)).foldl (fun r n => r.push (UInt8.ofNat n.toNat)) a = ⟨a.data ++ (l.map fun x : Nat => UInt8.ofNat x).toArray⟩
  | [], a => by simp
  | x :: l, a => by
    simp only [List.map_cons, List.foldl_cons]
    rw [fold_push l]
    congr 1
    simp [ByteArray.push]
theorem conv_any (w : World) (l : List Nat) (A : Option Addr) (c B n : Nat) (hn : l.length = n) (h : Byt w B A l) : (convert 93 9 (.slice A n c)).run Try.prog w = .ok (.string (strB l)) w := by
  subst hn
  rw [run_convert_bytes_string w 93 9 5 A l.length c Try.underlying93 Try.underlying5 Try.underlying9]
  cases A with
  | none =>
    have hl : l = [] := by
      rcases Nat.eq_zero_or_pos l.length with h0 | h0
      · exact List.eq_nil_of_length_eq_zero h0
      · obtain ⟨_, _, e, _⟩ := h h0
        cases e
    subst hl
    simp [Conv.bytesToString, Sem.run_pure, strB]
    try rfl
  | some a =>
    rw [run_bytesToString w a l.length c (l.map fun x : Nat => (x : Int)) ?_]
    · rw [fold_push]
      simp [strB]
      try rfl
    · have hld := run_loadCells_list (P := Try.prog) w a (l.map fun x : Nat => Value.int .u8 (x : Int)) (fun j v hv => by
        obtain ⟨x, hx, rfl⟩ : ∃ x, l[j]? = some x ∧ Value.int .u8 (x : Int) = v := by simpa using hv
        have hj := (List.getElem?_eq_some_iff.1 hx).1
        obtain ⟨b, off, e, _, hc⟩ := h (by omega)
        cases e
        rw [Addr.add_lit, hc j hj]
        simp [hx])
      rw [List.length_map] at hld
      rw [List.map_map]
      exact hld
theorem strB_size (l : List Nat) : (strB l).size = l.length := by simp [strB, ByteArray.size]
/-- A root as text. -/
def rootS (x : RootT) : ByteArray := strB [x.1.size % 256] ++ x.1 ++ strB x.2.1
set_option maxRecDepth 100000 in
set_option maxHeartbeats 4000000 in
theorem root_any (w : World) (x : RootT) (hsz : x.1.size ≤ 4611686018427387904) : Calls Try.prog 27 #[.agg (encR x).toArray] w fun e w' => e = .returned (.string (rootS x)) ∧ Below w.heap.size w w' := by
  obtain ⟨w0, hw0⟩ : ∃ w0, Hid (∀ _ : Unit, w.alloc (.cells (encR x).toArray 61) = w0) := ⟨_, Lib.hid fun _ => rfl⟩
  have hb0 : Hid (Below w.heap.size w w0) := Lib.hid (by rw [← hw0.out ()]; exact (Below.refl _ _).alloc (Nat.le_refl _) _)
  have hx0 : Hid (w0.heap[w.heap.size]? = some (.cells (encR x).toArray 61 (0, 0))) := Lib.hid (by rw [← hw0.out ()]; exact heap_alloc_new w _)
  obtain ⟨S0, hS0⟩ : ∃ s, Hid (∀ _ : Unit, w.heap.size = s) := ⟨_, Lib.hid fun _ => rfl⟩
  have sR : ∀ W, Below w0.heap.size w0 W → W.rangeAt S0 0 (encR x) := fun W hW j v hj => by
    rw [← hS0.out ()]
    have hg := (hW.block w.heap.size (Array.getElem?_eq_some_iff.1 hx0.out).1).trans hx0.out
    rw [Nat.zero_add]
    simp [World.cell?, hg, hj]
  have hcn : Hid (∀ W, Below w0.heap.size w0 W → W.cell? ⟨S0, 0, none⟩ = some (.string x.1)) := Lib.hid fun W hW => sR W hW 0 _ rfl
  have hck : Hid (∀ W, Below w0.heap.size w0 W → (convert 93 9 (.slice (some ⟨S0, 1, none⟩) 32 32)).run Try.prog W = .ok (.string (strB x.2.1)) W) := Lib.hid fun W hW => by
    refine conv_any W x.2.1 _ 32 (S0 + 1) 32 x.2.2 fun _ => ⟨S0, 1, rfl, by omega, fun j hj => ?_⟩
    have h1 := sR W hW (j + 1) (.int .u8 ((x.2.1[j]?.getD 0 : Nat) : Int)) (by simp [encR, u8s, List.getElem?_eq_getElem hj])
    rw [Nat.zero_add, Nat.add_comm j 1] at h1
    exact h1
  obtain ⟨LB, hLB⟩ : ∃ n : Nat, Hid (∀ _ : Unit, x.1.size % 256 = n) := ⟨_, Lib.hid fun _ => rfl⟩
  have wLB : IntKind.u8.wrap (x.1.size : Int) = (LB : Int) := by rw [IntKind.wrap_u8, ← hLB.out ()]; omega
  have z1 : (strB [LB]).size = 1 := strB_size _
  have z2 : (strB x.2.1).size = 32 := (strB_size _).trans x.2.2
  have z3 : ¬ 9223372036854775807 < 1 + x.1.size := by omega
  have z4 : ¬ 9223372036854775807 < 1 + x.1.size + 32 := by omega
  clear hsz
  go_enter Try.func27, Try.ntmps27
  go_wp2_with fail
  rw [hw0.out (), hS0.out ()]
  refine wp_region_held (S := fun W => Below w0.heap.size w0 W) (by kernel_rfl) ?_
  change wpAnyH _ _ _ _ _ _ _ _ (World.drew w0)
  have hd : Hid (Below w0.heap.size w0 (World.drew w0)) := Lib.hid (below_drewN (Below.refl _ _) 1)
  have he : Hid (Below w0.heap.size w0 ((World.drew w0).alloc (.cells #[.int .u8 (LB : Int)] 5))) := Lib.hid (hd.out.alloc hd.out.size _)
  have hcl : (convert 93 9 (.slice (some ⟨w0.heap.size, 0, none⟩) 1 1)).run Try.prog (World.drew (w0.alloc (.cells #[.int .u8 (LB : Int)] 5))) = .ok (.string (strB [LB])) (World.drew (w0.alloc (.cells #[.int .u8 (LB : Int)] 5))) := by
    refine conv_any _ [LB] _ 1 (w0.heap.size + 1) 1 rfl fun _ => ⟨w0.heap.size, 0, rfl, by omega, fun j hj => ?_⟩
    have h1 := heap_alloc_new w0 (.cells #[.int .u8 (LB : Int)] 5)
    obtain rfl : j = 0 := by simpa using hj
    exact cell_of_row _ _ 0 _ _ _ h1
  refine takeD (i := 0) (d := 3) (v := .pointer (some ⟨S0, 0, none⟩)) rfl rfl (by kernel_rfl) (by kernel_rfl) (by kernel_rfl) (fun _ _ _ h => h) (Or.inl ⟨by rfl, by intro W hW; clear hW; go_simp⟩) hd.out ?_
  simp only [List.setIfInBounds_toArray, List.set_cons_zero, List.set_cons_succ]
  refine takeD (i := 1) (d := 4) (v := .string x.1) rfl rfl (by kernel_rfl) (by kernel_rfl) (by kernel_rfl) (fun _ _ _ h => h) (Or.inl ⟨by rfl, by intro W hW; have cc := hcn.out W hW; clear hW; go_simp⟩) hd.out ?_
  simp only [List.setIfInBounds_toArray, List.set_cons_zero, List.set_cons_succ]
  refine takeD (i := 2) (d := 5) (v := .int .i64 (x.1.size : Int)) rfl rfl (by kernel_rfl) (by kernel_rfl) (by kernel_rfl) (fun _ _ _ h => h) (Or.inl ⟨by rfl, by intro W hW; clear hW; go_simp⟩) hd.out ?_
  simp only [List.setIfInBounds_toArray, List.set_cons_zero, List.set_cons_succ]
  refine takeD (i := 3) (d := 6) (v := .int .u8 (LB : Int)) rfl rfl (by kernel_rfl) (by kernel_rfl) (by kernel_rfl) (fun _ _ _ h => h) (Or.inl ⟨by rfl, by intro W hW; clear hW; go_simp⟩) hd.out ?_
  simp only [List.setIfInBounds_toArray, List.set_cons_zero, List.set_cons_succ]
  refine takeD (i := 6) (d := 9) (v := .pointer (some ⟨S0, 0, none⟩)) rfl rfl (by kernel_rfl) (by kernel_rfl) (by kernel_rfl) (fun _ _ _ h => h) (Or.inl ⟨by rfl, by intro W hW; clear hW; go_simp⟩) hd.out ?_
  simp only [List.setIfInBounds_toArray, List.set_cons_zero, List.set_cons_succ]
  refine takeD (i := 7) (d := 10) (v := .string x.1) rfl rfl (by kernel_rfl) (by kernel_rfl) (by kernel_rfl) (fun _ _ _ h => h) (Or.inl ⟨by rfl, by intro W hW; have cc := hcn.out W hW; clear hW; go_simp⟩) hd.out ?_
  simp only [List.setIfInBounds_toArray, List.set_cons_zero, List.set_cons_succ]
  refine takeD (i := 9) (d := 12) (v := .pointer (some ⟨S0, 1, none⟩)) rfl rfl (by kernel_rfl) (by kernel_rfl) (by kernel_rfl) (fun _ _ _ h => h) (Or.inl ⟨by rfl, by intro W hW; clear hW; go_simp⟩) hd.out ?_
  simp only [List.setIfInBounds_toArray, List.set_cons_zero, List.set_cons_succ]
  refine takeD (i := 10) (d := 13) (v := .slice (some ⟨S0, 1, none⟩) 32 32) rfl rfl (by kernel_rfl) (by kernel_rfl) (by kernel_rfl) (fun _ _ _ h => h) (Or.inl ⟨by rfl, by intro W hW; clear hW; go_simp⟩) hd.out ?_
  simp only [List.setIfInBounds_toArray, List.set_cons_zero, List.set_cons_succ]
  refine takeD (i := 11) (d := 14) (v := .string (strB x.2.1)) rfl rfl (by kernel_rfl) (by kernel_rfl) (by kernel_rfl) (fun _ _ _ h => h) (Or.inl ⟨by rfl, by intro W hW; have cc := hck.out W hW; clear hW; go_simp⟩) hd.out ?_
  simp only [List.setIfInBounds_toArray, List.set_cons_zero, List.set_cons_succ]
  refine wpAnyH_ready (rs := [4]) (by kernel_rfl) (by simp) ?_
  refine AllReadyH.cons rfl (fun K hK => ?_) AllReadyH.nil
  go_simp
  refine hK.out _ _ he.out (fun _ => ?_)
  clear hK K
  refine wpAnyH_ready (rs := [5]) (by kernel_rfl) (by simp) ?_
  refine AllReadyH.cons rfl (fun K hK => ?_) AllReadyH.nil
  go_simp
  refine hK.out _ _ he.out (fun _ => ?_)
  clear hK K
  refine wpAnyH_ready (rs := [8]) (by kernel_rfl) (by simp) ?_
  refine AllReadyH.cons rfl (fun K hK => ?_) AllReadyH.nil
  go_simp
  refine hK.out _ _ he.out (fun _ => ?_)
  clear hK K
  refine wpAnyH_ready (rs := [12]) (by kernel_rfl) (by simp) ?_
  refine AllReadyH.cons rfl (fun K hK => ?_) AllReadyH.nil
  go_simp
  refine hK.out _ _ he.out (fun _ => ?_)
  clear hK K
  refine wpAnyH_ready (rs := [13]) (by kernel_rfl) (by simp) ?_
  refine AllReadyH.cons rfl (fun K hK => ?_) AllReadyH.nil
  go_simp
  refine hK.out _ _ he.out (fun _ => ?_)
  clear hK K
  refine wpAnyH_done (by kernel_rfl) ?_ _
  go_wp2_with fail
  go_ret
  refine ⟨?_, hb0.out.trans (he.out.mono hb0.out.size)⟩
  rw [← hLB.out ()]
  rfl
end Go.Proofs.Ytakcnkmlglkkpaa

namespace Go.Proofs.Ytakcnkmlglkkpaa
open Go.RowKit
set_option linter.unusedSimpArgs false
set_option linter.unusedVariables false

/-- A list of roots as text. -/
def listS (l : List RootT) : ByteArray := l.foldl (fun s x => s ++ rootS x) ⟨#[]⟩
def totS (l : List RootT) : Nat := (l.map fun x => x.1.size + 33).sum
theorem rootS_size (x : RootT) : (rootS x).size = x.1.size + 33 := by
  unfold rootS
  rw [ByteArray.size_append, ByteArray.size_append, strB_size, strB_size, x.2.2]
  simp
  omega
theorem listS_snoc (l : List RootT) (x : RootT) : listS (l ++ [x]) = listS l ++ rootS x := by simp [listS]
theorem totS_snoc (l : List RootT) (x : RootT) : totS (l ++ [x]) = totS l + (x.1.size + 33) := by simp [totS]
theorem totS_app (a b : List RootT) : totS (a ++ b) = totS a + totS b := by simp [totS]
theorem listS_size : ∀ l : List RootT, (listS l).size = totS l := fun l => by
  have h : ∀ (l : List RootT) (s : ByteArray), (l.foldl (fun s x => s ++ rootS x) s).size = s.size + totS l := by
    intro l
    induction l with
    | nil => intro s; simp [totS]
    | cons x l ih =>
      intro s
      rw [List.foldl_cons, ih, ByteArray.size_append, rootS_size]
      simp [totS]
      omega
  have := h l ⟨#[]⟩
  rw [show (⟨#[]⟩ : ByteArray).size = 0 from rfl, Nat.zero_add] at this
  exact this
theorem totS_take (l : List RootT) (k : Nat) : totS (l.take k) ≤ totS l := by
  have := totS_app (l.take k) (l.drop k)
  rw [List.take_append_drop] at this
  omega
theorem totS_mem {l : List RootT} {k : Nat} {x : RootT} (hx : l[k]? = some x) : x.1.size + 33 ≤ totS l := by
  have h1 := totS_take l (k + 1)
  rw [take_one hx, totS_snoc] at h1
  omega
set_option maxRecDepth 100000 in
set_option maxHeartbeats 4000000 in
theorem listed_txt (w : World) (l : List RootT) (A : Option Addr) (n c B : Nat) (hl : l.length = n) (hn : n ≤ 4611686018427387904) (hR : RowR w B A l) (hB : B ≤ w.heap.size) (ht : totS l ≤ 4611686018427387904) :
    Calls Try.prog 16 #[.slice A n c] w fun e w' => e = .returned (.string (listS l)) ∧ Below w.heap.size w w' := by
  have m33 : Hid (∀ r : RootT, (encR r).length = 33) := Lib.hid encR_length
  have hi33 : Hid ((Try.prog.info? 61).map (·.size) = some 33) := Lib.hid (by kernel_rfl)
  have hR' := Lib.hid hR
  have hl' := Lib.hid hl
  have ht' := Lib.hid ht
  have hB' := Lib.hid hB
  clear hR hl ht hB
  go_enter Try.func16, Try.ntmps16
  go_wp2_with fail
  go_loopw [3, 4] (fun sv i wr => ∃ (k : Nat) (S : ByteArray), k ≤ n ∧ i = .int .i64 k ∧ sv = .string S ∧ Hid (S = listS (l.take k)) ∧ Hid (Below w.heap.size w wr)) (fun _ i _ => n - (intOf i).toNat)
  case atStart => exact ⟨0, ⟨#[]⟩, by omega, rfl, rfl, Lib.hid (by simp [listS]), Lib.hid (Below.refl _ _)⟩
  case round =>
    obtain ⟨k, S, hk, rfl, rfl, hS, hb⟩ := hrel
    by_cases hlt : k < n
    · obtain ⟨x, hx⟩ : ∃ x, l[k]? = some x := ⟨_, List.getElem?_eq_getElem (by have := hl'.out; omega)⟩
      obtain ⟨b, off, rfl, hbb, hrg⟩ := RowR.range (Rd.below hR'.out (hb.out.mono hB'.out)) hx
      have hrg' := Lib.hid hrg
      have hsz : x.1.size ≤ 4611686018427387904 := by have := totS_mem hx; have := ht'.out; omega
      have hrt := Lib.hid (root_any wr x hsz)
      have hs2 : S.size + (rootS x).size ≤ 4611686018427387904 := by
        have h1 := totS_take l (k + 1)
        rw [take_one hx, totS_snoc] at h1
        have h2 := ht'.out
        rw [hS.out, listS_size, rootS_size]
        omega
      have hs3 : ¬ 9223372036854775807 < S.size + (rootS x).size := by omega
      have hSn : Hid (S ++ rootS x = listS (l.take (k + 1))) := Lib.hid (by rw [take_one hx, listS_snoc, ← hS.out])
      clear hrg hx hsz hs2
      obtain ⟨T, hT⟩ : ∃ T, Hid (∀ _ : Unit, rootS x = T) := ⟨_, Lib.hid fun _ => rfl⟩
      rw [hT.out ()] at hrt hs3 hSn
      go_wp2_with (first
        | (refine wpList_load_mid rfl 61 _ rfl b (off + k * 33) rfl (encR x) _ hrg'.out Try.underlying61 rfl (by rw [m33.out]; exact hi33.out) ?_)
        | (go_at_call 27; refine hrt.out.mono ?_; rintro e w2 ⟨rfl, b2⟩; have b2' := Lib.hid (hb.out.trans (b2.mono hb.out.size)); clear b2))
      go_roundw
      case rel => exact ⟨k + 1, S ++ T, by omega, by go_num, rfl, hSn, b2'⟩
      case measure => simp [intOf]; omega
    · obtain rfl : k = n := by omega
      have hfull : l.take k = l := List.take_of_length_le (by rw [hl'.out]; exact Nat.le_refl _)
      rw [hfull] at hS
      go_wp2_with fail
      go_ret
      exact ⟨by rw [hS.out]; rfl, hb.out⟩
end Go.Proofs.Ytakcnkmlglkkpaa

namespace Go.Proofs.Ytakcnkmlglkkpaa
open Go.RowKit
set_option linter.unusedSimpArgs false
set_option linter.unusedVariables false

theorem Gro.of_grown {S : Nat → Prop} {w w' : World} {row : Option Nat} (h : w.grownBy w' row) (hS : ∀ j, row = some j → S j) : Gro S w w' :=
  ⟨h.os, h.tape, h.output, h.size, fun k hk hn => h.block k hk (fun e => hn (hS k e.symm))⟩
theorem Gro.refl (S : Nat → Prop) (w : World) : Gro S w w := ⟨rfl, rfl, rfl, Nat.le_refl _, fun _ _ _ => rfl⟩
/-- A row of roots whose keys' fourth bytes are bytes. -/
def Shp (m n : Nat) (xs : List Value) : Prop := ∀ k, m ≤ k → k < n → ∃ z : Int, xs[k * 33 + 4]? = some (.int .u8 z)
theorem Shp.rows (l : List RootT) : Shp 0 l.length (rowsR l) := fun k _ hk => by
  have h := flat_get (enc := encR) encR_length l k 4 hk (by decide)
  rw [rowsR_flat, h]
  have h2 := (l[k]).2.2
  obtain ⟨z, hz⟩ : ∃ z, (l[k]).2.1[3]? = some z := ⟨(l[k]).2.1[3]'(by omega), List.getElem?_eq_getElem (by omega)⟩
  exact ⟨z, by simp [encR, u8s, hz]⟩
def moreR : RootT := (⟨#[109, 111, 114, 101]⟩, kZ)
theorem buildMr (w : World) : (Instr.build 61 #[(0, .string ⟨#[109, 111, 114, 101]⟩)]).run Try.prog w = .ok (.agg (encR moreR).toArray) w := run_build w _ _ _ (by kernel_rfl)
set_option maxRecDepth 100000 in
set_option maxHeartbeats 4000000 in
theorem spoilt_any (w : World) (xs : List Value) (A : Option Addr) (n c B : Nat) (ho : Own w B 61 33 A n c xs) (hx : Shp 0 n xs) (hn : n ≤ 100000) (hB : B ≤ w.heap.size) :
    Calls Try.prog 33 #[.slice A n c] w fun e w' => (∃ v, e = .returned v) ∧ Gro (fun j => blockOf A = some j) w w' := by
  have hbm := buildMr
  have ho' := Lib.hid ho
  have hx' := Lib.hid hx
  have hB' := Lib.hid hB
  clear ho hx hB
  go_enter Try.func33, Try.ntmps33
  go_wp2_with fail
  go_loopw [2] (fun i wr => ∃ (k : Nat) (ys : List Value), k ≤ n ∧ i = .int .i64 k ∧ Hid (Own wr B 61 33 A n c ys) ∧ Hid (Shp k n ys) ∧ Hid (w.grownBy wr (blockOf A))) (fun i _ => n - (intOf i).toNat)
  case atStart => exact ⟨0, xs, by omega, rfl, ho', hx', Lib.hid (World.grownBy.refl w _)⟩
  case round =>
    obtain ⟨k, ys, hk, rfl, ho2, hx2, hg2⟩ := hrel
    by_cases hlt : k < n
    · obtain ⟨g, rfl⟩ := ho2.out.head (by omega)
      have q1 : wr.cell? ⟨g, k * 33, none⟩ = some (ys[k * 33]?.getD undef) := by
        rw [ho2.out.cell (k * 33) (by omega)]
        have : k * 33 < ys.length := by rw [ho2.out.len]; omega
        simp [this]
      have f1 : wr.frozen? ⟨g, k * 33, none⟩ = false := ho2.out.frozen _
      obtain ⟨z, hz⟩ := hx2.out k (Nat.le_refl _) hlt
      have hz1 : (ys.set (k * 33) (.string ⟨#[115, 112, 111, 105, 108, 116]⟩))[k * 33 + 4]? = some (.int .u8 z) := by
        rw [List.getElem?_set_ne (by omega)]
        exact hz
      have o3 := Lib.hid (ho2.out.set (k * 33) (.string ⟨#[115, 112, 111, 105, 108, 116]⟩))
      have q2 : (wr.setCell ⟨g, k * 33, none⟩ (.string ⟨#[115, 112, 111, 105, 108, 116]⟩)).cell? ⟨g, k * 33 + 1 + 3, none⟩ = some (.int .u8 z) := by
        rw [show k * 33 + 1 + 3 = k * 33 + 4 by omega, o3.out.cell (k * 33 + 4) (by omega), hz1]
      have f2 : (wr.setCell ⟨g, k * 33, none⟩ (.string ⟨#[115, 112, 111, 105, 108, 116]⟩)).frozen? ⟨g, k * 33 + 1 + 3, none⟩ = false := o3.out.frozen _
      have g3 := Lib.hid (hg2.out.trans (ho2.out.set_grown (k * 33) (.string ⟨#[115, 112, 111, 105, 108, 116]⟩)))
      clear hz
      go_wp2_with fail
      go_region
      obtain ⟨u, hu⟩ : ∃ u : Value, .int IntKind.u8 (bits .xor .u8 z 255) = u := ⟨_, rfl⟩
      rw [hu]
      have o4 := Lib.hid ((o3.out.set (k * 33 + 1 + 3) u).drewN 1)
      have g4 : Hid (w.grownBy (((wr.setCell ⟨g, k * 33, none⟩ (.string ⟨#[115, 112, 111, 105, 108, 116]⟩)).setCell ⟨g, k * 33 + 1 + 3, none⟩ u).drewN 1) (blockOf (some ⟨g, 0, none⟩))) := Lib.hid (by
        have q := g3.out.trans (o3.out.set_grown (k * 33 + 1 + 3) u)
        exact ⟨q.os, q.tape, q.output, q.size, q.block⟩)
      have x4 : Hid (Shp (k + 1) n ((ys.set (k * 33) (.string ⟨#[115, 112, 111, 105, 108, 116]⟩)).set (k * 33 + 1 + 3) u)) := Lib.hid fun j h1 h2 => by
        obtain ⟨y, hy⟩ := hx2.out j (by omega) h2
        exact ⟨y, by rw [List.getElem?_set_ne (by omega), List.getElem?_set_ne (by omega)]; exact hy⟩
      clear hu q1 f1 q2 f2 hz1
      go_wp2_with fail
      go_roundw
      case rel => exact ⟨k + 1, _, by omega, by go_num, o4, x4, g4⟩
      case measure => simp [intOf]; omega
    · obtain rfl : k = n := by omega
      have hg0 : Hid (Gro (fun j => blockOf A = some j) w wr) := Lib.hid (Gro.of_grown hg2.out fun j hj => hj)
      have hBr : Hid (B ≤ wr.heap.size) := Lib.hid (Nat.le_trans hB'.out hg2.out.size)
      clear hg2 hx2 ho'
      go_wp2_with fail
      go_loopw [0, 3] (fun sv i wx => ∃ (k2 n2 c2 : Nat) (A2 : Option Addr) (zs : List Value), k2 ≤ 16 ∧ n2 ≤ 100000 + k2 ∧ i = .int .i64 k2 ∧ sv = .slice A2 n2 c2 ∧ Hid (Own wx B 61 33 A2 n2 c2 zs) ∧ Hid (Gro (fun j => blockOf A = some j) w wx ∧ ∀ j, blockOf A2 = some j → blockOf A = some j ∨ w.heap.size ≤ j) ∧ Hid (B ≤ wx.heap.size)) (fun _ i _ => 16 - (intOf i).toNat)
      case atStart => exact ⟨0, k, c, A, ys, by omega, by omega, rfl, rfl, ho2, Lib.hid ⟨hg0.out, fun j hj => .inl hj⟩, hBr⟩
      case round =>
        clear ho2 hg0 hBr
        obtain ⟨k2, n2, c2, A2, zs, hk2, hn2, rfl, rfl, hoz, hgz, hBz⟩ := hrel
        by_cases h16 : k2 < 16
        · have b1 : (k2 : Int) < 16 := by omega
          go_wp2_with (first
            | (refine Great.wpList_buildSliceTo rfl 24 61 1 _ rfl _ rfl _ rfl Try.underlying24 (encR moreR).toArray (by rw [List.map_toArray]; exact builtR moreR) ?_)
            | (at_builtin; refine wpList_app1 elR wr (encR moreR).toArray (by simp [encR_length]) rfl _ _ rfl rfl hoz.out rfl (by intro u hu; exact encR_one moreR u (by simpa using hu)) (by unfold maxLen; omega) (by omega) hBz.out (n2 + 1) rfl (zs ++ encR moreR) (by simp) ?_
               intro A4 c4 w4 o4 at4 b4
               have o4' := Lib.hid o4
               have g4' : Hid (Gro (fun j => blockOf A = some j) w w4 ∧ ∀ j, blockOf A4 = some j → blockOf A = some j ∨ w.heap.size ≤ j) := Lib.hid ⟨hgz.out.1.trans (Gro.of_grown (S := fun j => blockOf A2 = some j) at4.grown fun j hj => hj) hgz.out.2, fun j hj => by
                 rcases at4 with ⟨e, _⟩ | ⟨q, e, hq, _⟩
                 · exact hgz.out.2 j (e ▸ hj)
                 · rw [hj] at e
                   cases e
                   exact .inr (Nat.le_trans hgz.out.1.size hq)⟩
               have B4' := Lib.hid (Nat.le_trans hBz.out b4.size)
               clear o4 at4 b4))
          go_roundw
          case rel => exact ⟨k2 + 1, n2 + 1, c4, A4, _, by omega, by omega, by go_num, rfl, o4', g4', B4'⟩
          case measure => simp [intOf]; omega
        · obtain rfl : k2 = 16 := by omega
          go_wp2_with fail
          go_end0
          exact ⟨⟨_, rfl⟩, hgz.out.1⟩
end Go.Proofs.Ytakcnkmlglkkpaa

/- The document's bytes of numbers: Var, Fixed. The document's bytes of a text. What stands while an object is laid by an encoder. Arguments of a law opened: from what they read as to what their cells hold. No program is named here. -/
import Derived.Test.YtkjndgapejbgcaaDoorPkD5
import Derived.Test.YtkjndgapejbgcaaDoorPkD14
import Derived.Test.YtkjndgapejbgcaaDoorPkD16
import Derived.Test.YtkjndgapejbgcaaDoorPkD1
import Derived.ProofKit
import Derived.OpenShut
import Derived.Deep.Slices
import Derived.SizedLaws

namespace Go.Proofs.YtkjndgapejbgcaaDoor
open Go.RowKit
set_option linter.unusedSimpArgs false

set_option maxRecDepth 20000 in
set_option maxHeartbeats 1000000 in
theorem refVar_any (w : World) (v : Nat) (hv : v < 18446744073709551616) :
    Calls Tryd.prog 71 #[.int .u64 (v : Int)] w fun e w' => (∃ A c, e = .returned (.slice A (varL v).length c) ∧ Own w' w.heap.size 5 1 A (varL v).length c (u8s (varL v))) ∧ Below w.heap.size w w' := by
  obtain ⟨V, hV⟩ : ∃ V, Hid (∀ _ : Unit, varL v = V) := ⟨_, Lib.hid fun _ => rfl⟩
  rw [hV.out ()]
  have hst : Hid ([] ++ varF 10 v = V ∧ v < 128 ^ 10) := Lib.hid ⟨hV.out (), by omega⟩
  go_enter Tryd.func71, Tryd.ntmps71
  go_wp2_with fail
  go_loopw [0, 3] (fun vv sv wr => ∃ (f u : Nat) (acc : List Nat) (A : Option Addr) (c : Nat), vv = .int .u64 (u : Int) ∧ u < 18446744073709551616 ∧ f ≤ 9 ∧ acc.length + f ≤ 9 ∧ sv = .slice A acc.length c ∧ Hid (acc ++ varF (f + 1) u = V ∧ u < 128 ^ (f + 1)) ∧ Hid (Own wr w.heap.size 5 1 A acc.length c (u8s acc)) ∧ Hid (Below w.heap.size w wr)) (fun vv _ _ => (intOf vv).toNat)
  case atStart => exact ⟨9, v, [], none, 0, rfl, hv, by omega, by simp, rfl, hst, Lib.hid (Own.nil _ _ _ _), Lib.hid (Below.refl _ _)⟩
  case round =>
    clear hst
    obtain ⟨f, u, acc, A1, c1, rfl, hu64, hf, hal, rfl, hu, ho, hb⟩ := hrel
    obtain ⟨n, hn⟩ : ∃ n, Hid (∀ _ : Unit, acc.length = n) := ⟨_, Lib.hid fun _ => rfl⟩
    have hnl : n ≤ 9 := by rw [← hn.out ()]; omega
    rw [hn.out ()] at ho hal ⊢
    have hbs := Lib.hid hb.out.size
    by_cases hu128 : u < 128
    · have hu0 : (u : Int) < 128 := by omega
      have hm : (u : Int) % 256 = (u : Int) := by omega
      have hfin : Hid (acc ++ [u] = V) := Lib.hid (by have := hu.out.1; rwa [varF, if_pos hu128] at this)
      go_wp2_with (first | (at_builtin; refine wpList_app1 elB _ #[_] rfl rfl _ _ rfl rfl ho.out rfl (by intro u hu; simp at hu; subst hu; rfl) (by unfold maxLen; omega) (by omega) hbs.out (n + 1) rfl _ rfl ?_; intro A2 c2 w2 o2 _ b2; have o2' := Lib.hid o2; have b2' := Lib.hid (hb.out.trans b2); clear o2 b2))
      go_ret
      have hl : V.length = n + 1 := by rw [← hfin.out, List.length_append, hn.out ()]; rfl
      refine ⟨⟨A2, c2, by rw [hl]; rfl, ?_⟩, b2'.out⟩
      rw [hl, ← hfin.out, u8s_append]
      exact o2'.out
    · have hu0 : (128 : Int) ≤ (u : Int) := by omega
      obtain ⟨f, rfl⟩ : ∃ q, f = q + 1 := by
        refine ⟨f - 1, ?_⟩
        have := hu.out.2
        by_cases h0 : f = 0
        · subst h0; simp at this; omega
        · omega
      obtain ⟨y, hy⟩ : ∃ y, Hid (u % 128 + 128 = y) := ⟨_, Lib.hid rfl⟩
      have hyz : (u : Int) % 128 + 128 = (y : Int) := by rw [← hy.out]; omega
      have hwq : IntKind.u64.wrap ((u : Int) / 128) = ((u / 128 : Nat) : Int) := by rw [IntKind.wrap_u64]; omega
      have hy256 : (y : Int) % 256 = (y : Int) := by rw [← hy.out]; omega
      have hnx : Hid ((acc ++ [y]) ++ varF (f + 1) (u / 128) = V ∧ u / 128 < 128 ^ (f + 1)) := Lib.hid ⟨by
          have := hu.out.1
          rw [varF, if_neg hu128, hy.out] at this
          rw [List.append_assoc]
          exact this, by
          have := hu.out.2
          rw [Nat.pow_succ, Nat.mul_comm] at this
          exact Nat.div_lt_of_lt_mul this⟩
      go_wp2_with (first | (at_builtin; refine wpList_app1 elB _ #[_] rfl rfl _ _ rfl rfl ho.out rfl (by intro u hu; simp at hu; subst hu; rfl) (by unfold maxLen; omega) (by omega) hbs.out (n + 1) rfl _ rfl ?_; intro A2 c2 w2 o2 _ b2; have o2' := Lib.hid o2; have b2' := Lib.hid (hb.out.trans b2); clear o2 b2))
      go_roundw
      case rel => exact ⟨f, u / 128, acc ++ [y], A2, c2, by go_num, by omega, by omega, by rw [List.length_append, hn.out ()]; simp; omega, by rw [List.length_append, hn.out ()]; rfl, hnx, Lib.hid (by rw [u8s_append, List.length_append, hn.out ()]; exact o2'.out), b2'⟩
      case measure => simp [intOf]; omega

theorem fixF_length : ∀ n u, (fixF n u).length = n
  | 0, _ => rfl
  | n + 1, u => by simp [fixF, fixF_length n]
set_option maxRecDepth 20000 in
set_option maxHeartbeats 1000000 in
theorem refFixed_any (w : World) (v N : Nat) (hv : v < 18446744073709551616) (hN : N ≤ 9) :
    Calls Tryd.prog 73 #[.int .u64 (v : Int), .int .i64 (N : Int)] w fun e w' => (∃ A c, e = .returned (.slice A N c) ∧ Own w' w.heap.size 5 1 A N c (u8s (fixF N v))) ∧ Below w.heap.size w w' := by
  obtain ⟨V, hV⟩ : ∃ V, Hid (∀ _ : Unit, fixF N v = V) := ⟨_, Lib.hid fun _ => rfl⟩
  rw [hV.out ()]
  go_enter Tryd.func73, Tryd.ntmps73
  go_wp2_with fail
  go_loopw [0, 5, 6] (fun vv sv iv wr => ∃ (j u : Nat) (acc : List Nat) (A : Option Addr) (c : Nat), j ≤ N ∧ vv = .int .u64 (u : Int) ∧ u < 18446744073709551616 ∧ iv = .int .i64 (j : Int) ∧ sv = .slice A j c ∧ Hid (acc.length = j ∧ acc ++ fixF (N - j) u = V) ∧ Hid (Own wr w.heap.size 5 1 A j c (u8s acc)) ∧ Hid (Below w.heap.size w wr)) (fun _ _ iv _ => N - (intOf iv).toNat)
  case atStart => exact ⟨0, v, [], none, 0, by omega, rfl, hv, rfl, rfl, Lib.hid ⟨rfl, hV.out ()⟩, Lib.hid (Own.nil _ _ _ _), Lib.hid (Below.refl _ _)⟩
  case round =>
    obtain ⟨j, u, acc, A1, c1, hj, rfl, hu64, rfl, rfl, hu, ho, hb⟩ := hrel
    have hbs := Lib.hid hb.out.size
    by_cases hlt : j < N
    · obtain ⟨y, hy⟩ : ∃ y, Hid (u % 256 = y) := ⟨_, Lib.hid rfl⟩
      have hyz : (u : Int) % 256 = (y : Int) := by rw [← hy.out]; omega
      have hy256 : (y : Int) % 256 = (y : Int) := by rw [← hy.out]; omega
      have hwq : IntKind.u64.wrap ((u : Int) / 256) = ((u / 256 : Nat) : Int) := by rw [IntKind.wrap_u64]; omega
      have hnx : Hid ((acc ++ [y]).length = j + 1 ∧ (acc ++ [y]) ++ fixF (N - (j + 1)) (u / 256) = V) := Lib.hid ⟨by rw [List.length_append, hu.out.1]; rfl, by
        have := hu.out.2
        rw [show N - j = (N - (j + 1)) + 1 by omega, fixF, hy.out] at this
        rw [List.append_assoc]
        exact this⟩
      go_wp2_with (first | (at_builtin; refine wpList_app1 elB _ #[_] rfl rfl _ _ rfl rfl ho.out rfl (by intro u hu; simp at hu; subst hu; rfl) (by unfold maxLen; omega) (by omega) hbs.out (j + 1) rfl _ rfl ?_; intro A2 c2 w2 o2 _ b2; have o2' := Lib.hid o2; have b2' := Lib.hid (hb.out.trans b2); clear o2 b2))
      go_roundw
      case rel => exact ⟨j + 1, u / 256, acc ++ [y], A2, c2, by omega, by go_num, by omega, by go_num, rfl, hnx, Lib.hid (by rw [u8s_append]; exact o2'.out), b2'⟩
      case measure => simp [intOf]; omega
    · obtain rfl : j = N := by omega
      have hfin : acc = V := by
        have := hu.out.2
        rw [Nat.sub_self, fixF, List.append_nil] at this
        exact this
      have ho' := ho.out
      rw [hfin] at ho'
      have ho2 := Lib.hid ho'
      clear ho' hfin
      go_wp2_with fail
      go_ret
      exact ⟨⟨A1, c1, rfl, ho2.out⟩, hb.out⟩
end Go.Proofs.YtkjndgapejbgcaaDoor

namespace Go.Proofs.YtkjndgapejbgcaaDoor
open Go.RowKit
set_option linter.unusedSimpArgs false

theorem strL_get {s : ByteArray} {k : Nat} (h : k < s.size) : (strL s).take (k + 1) = (strL s).take k ++ [(s.get! k).toNat] := by
  have hl : k < (strL s).length := by rw [strL_length]; exact h
  rw [List.take_succ_eq_append_getElem hl]
  congr 2
  have h2 : k < s.data.size := h
  rw [← ch_at h]
  simp only [strL, List.getElem_map, Array.getElem_toList]
  rfl
theorem strL_all (s : ByteArray) : (strL s).take s.size = strL s := List.take_of_length_le (by rw [strL_length]; exact Nat.le_refl _)

set_option maxRecDepth 20000 in
set_option maxHeartbeats 1000000 in
theorem refText_any (w : World) (s : ByteArray) (hs : s.size ≤ 70368644000000) :
    Calls Tryd.prog 72 #[.string s] w fun e w' => (∃ A c, e = .returned (.slice A (varL s.size ++ strL s).length c) ∧ Own w' w.heap.size 5 1 A (varL s.size ++ strL s).length c (u8s (varL s.size ++ strL s))) ∧ Below w.heap.size w w' := by
  have hv' := Lib.hid (refVar_any w s.size (by omega))
  obtain ⟨V, hV⟩ : ∃ V, varL s.size = V := ⟨_, rfl⟩
  have hml : V.length ≤ 10 := by rw [← hV]; exact varF_length 10 s.size
  rw [hV] at hv' ⊢
  obtain ⟨m, hm⟩ : ∃ m, Hid (∀ _ : Unit, V.length = m) := ⟨_, Lib.hid fun _ => rfl⟩
  have hM : (V ++ strL s).length = m + s.size := by rw [List.length_append, hm.out (), strL_length]
  rw [hM]
  have hw : IntKind.u64.wrap ((s.size : Nat) : Int) = ((s.size : Nat) : Int) := by rw [IntKind.wrap_u64]; omega
  rw [hm.out ()] at hml hv'
  clear hV hM
  go_enter Tryd.func72, Tryd.ntmps72
  go_wp2_with fail
  refine hv'.out.mono ?_
  rintro e w1 ⟨⟨A0, c0, rfl, o0⟩, b0⟩
  have o0' := Lib.hid o0
  have b0' := Lib.hid b0
  clear o0 b0 hv'
  go_wp2_with fail
  go_loopw [3, 4] (fun sv iv wr => ∃ (k : Nat) (A : Option Addr) (c : Nat), k ≤ s.size ∧ iv = .int .i64 (k : Int) ∧ sv = .slice A (m + k) c ∧ Hid (Own wr w.heap.size 5 1 A (m + k) c (u8s (V ++ (strL s).take k))) ∧ Hid (Below w.heap.size w wr)) (fun _ iv _ => s.size - (intOf iv).toNat)
  case atStart => exact ⟨0, A0, c0, by omega, rfl, rfl, Lib.hid (by rw [List.take_zero, List.append_nil]; exact o0'.out), b0'⟩
  case round =>
    clear o0' b0'
    obtain ⟨k, A1, c1, hk, rfl, rfl, ho, hb⟩ := hrel
    have hbs := Lib.hid hb.out.size
    by_cases hlt : k < s.size
    · obtain ⟨y, hy⟩ : ∃ y, s.get! k = y := ⟨_, rfl⟩
      have hix := index_str hlt hy
      have hnx : Hid ((strL s).take (k + 1) = (strL s).take k ++ [y.toNat]) := Lib.hid (by rw [strL_get hlt, hy])
      go_wp2_with (first | (at_builtin; refine wpList_app1 elB _ #[_] rfl rfl _ _ rfl rfl ho.out rfl (by intro u hu; simp at hu; subst hu; rfl) (by unfold maxLen; omega) (by omega) hbs.out (m + (k + 1)) (by omega) _ rfl ?_; intro A2 c2 w2 o2 _ b2; have o2' := Lib.hid o2; have b2' := Lib.hid (hb.out.trans b2); clear o2 b2))
      go_roundw
      case rel => exact ⟨k + 1, A2, c2, by omega, by go_num, rfl, Lib.hid (by rw [hnx.out, ← List.append_assoc, u8s_append]; exact o2'.out), b2'⟩
      case measure => simp [intOf]; omega
    · obtain rfl : k = s.size := by omega
      have ho' := ho.out
      rw [strL_all] at ho'
      have ho2 := Lib.hid ho'
      clear ho'
      go_wp2_with fail
      go_ret
      exact ⟨⟨A1, c1, rfl, ho2.out⟩, hb.out⟩
end Go.Proofs.YtkjndgapejbgcaaDoor

namespace Go.Proofs.YtkjndgapejbgcaaDoor
open Go.RowKit
set_option linter.unusedSimpArgs false

/-- The object in its block (the call's first), the encoder in block g. -/
structure EncS (w wr : World) (g : Nat) (o : ObjT) (p : Lay) (A : Option Addr) (c : Nat) (l : List Nat) : Prop where
  bel : Below w.heap.size w wr
  blk : OBlk wr w.heap.size o p
  gt : w.heap.size < g
  enc : EncAt wr g A c l
section
variable {w wr w' : World} {g : Nat} {o : ObjT} {p : Lay} {A A' : Option Addr} {c c' : Nat} {l l' : List Nat}
theorem EncS.keep (h : EncS w wr g o p A c l) (hb : Below wr.heap.size wr w') : EncS w w' g o p A c l :=
  ⟨h.bel.trans (hb.mono h.bel.size), h.blk.below hb (lt_of_block h.blk), h.gt, h.enc.keep hb⟩
theorem EncS.call (h : EncS w wr g o p A c l) (he : EncAt w' g A' c' l') (hr : EncR g wr A w' A') : EncS w w' g o p A' c' l' := by
  have hg := h.gt
  refine ⟨h.bel.trans (hr.below (B := w.heap.size) (by omega) (fun k hk => by have := h.enc.off k hk; omega) h.bel.size), ?_, h.gt, he⟩
  exact (hr.block _ (lt_of_block h.blk) (by omega) (fun e => by have := h.enc.off _ e; omega)).trans h.blk
/-- A block of a loop's own. -/
structure LocB (w : World) (g N : Nat) (A : Option Addr) (cs : List Value) (t : TypeId) : Prop where
  blk : w.heap[N]? = some (.cells cs.toArray t (0, 0))
  ne : N ≠ g
  off : blockOf A ≠ some N
theorem LocB.call {N : Nat} {cs : List Value} {t : TypeId} (h : LocB w g N A cs t) (hr : EncR g w A w' A') : LocB w' g N A' cs t := by
  have hN := lt_of_block h.blk
  refine ⟨(hr.block N hN h.ne h.off).trans h.blk, h.ne, fun e => ?_⟩
  rcases hr.link with h1 | h1
  · exact h.off (h1 ▸ e)
  · have := h1 N e; omega
theorem LocB.new {cs : List Value} {t : TypeId} (h : EncS w wr g o p A c l) (hN : w'.heap[wr.heap.size]? = some (.cells cs.toArray t (0, 0))) : LocB w' g wr.heap.size A cs t :=
  ⟨hN, by have := h.enc.lt; omega, fun e => by have := (h.enc.own.lt _ e).2; omega⟩
theorem LocB.cell {N : Nat} {cs : List Value} {t : TypeId} (h : LocB w g N A cs t) {j : Nat} {v : Value} (hv : cs[j]? = some v) : w.cell? ⟨N, j, none⟩ = some v := by
  rw [cell_of_row _ _ _ _ _ _ h.blk]
  simpa using hv
end
theorem buildE (w : World) : (Instr.build 59 #[]).run Tryd.prog w = .ok (.agg #[.slice none 0 0, .pointer none]) w := run_build w _ _ _ (by kernel_rfl)

theorem varL_le (v : Nat) : (varL v).length ≤ 10 := varF_length 10 v
theorem flat_le {α : Type} (f : α → List Nat) (c : Nat) : ∀ l : List α, (∀ x ∈ l, (f x).length ≤ c) → (l.flatMap f).length ≤ l.length * c
  | [], _ => by simp
  | x :: l, h => by
    have h1 := h x (by simp)
    have h2 := flat_le f c l fun y hy => h y (by simp [hy])
    simp only [List.flatMap_cons, List.length_append, List.length_cons]
    rw [Nat.add_mul]
    omega
theorem flat_take_le {α : Type} (f : α → List Nat) (c : Nat) (l : List α) (h : ∀ x ∈ l, (f x).length ≤ c) (k : Nat) (hl : l.length ≤ 128) : ((l.take k).flatMap f).length ≤ 128 * c := by
  have h1 := flat_le f c (l.take k) fun x hx => h x (List.mem_of_mem_take hx)
  have h2 : (l.take k).length ≤ 128 := by rw [List.length_take]; omega
  exact Nat.le_trans h1 (Nat.mul_le_mul_right c h2)
theorem flat_take_succ {α : Type} (f : α → List Nat) {l : List α} {k : Nat} (hk : k < l.length) : (l.take (k + 1)).flatMap f = (l.take k).flatMap f ++ f l[k] := by
  rw [List.take_succ_eq_append_getElem hk, List.flatMap_append]
  simp
theorem itemsE_names : ∀ (l : List ItemT) (q : Option ByteArray), itemsE q l = 0 → ∀ x ∈ l, nameOk x.1 = true
  | [], _, _, _, hx => by simp at hx
  | y :: l, q, h, x, hx => by
    unfold itemsE at h
    cases hy : nameOk y.1 with
    | false => rw [if_pos hy] at h; cases h
    | true =>
      rw [if_neg (by rw [hy]; decide)] at h
      rcases List.mem_cons.1 hx with rfl | hx
      · exact hy
      · split at h
        · cases h
        · split at h
          · cases h
          · exact itemsE_names l _ h x hx
theorem nameOk_size {s : ByteArray} (h : nameOk s = true) : s.size ≤ 64 := by
  unfold nameOk Fine at h
  simp only [Bool.and_eq_true, decide_eq_true_eq] at h
  exact h.1.1.1.2
structure MayB (o : ObjT) : Prop where
  k1 : 1 ≤ o.kind
  k4 : o.kind ≤ 4
  hf : refFor o = false
  ps : o.parts.length ≤ 128
  xs : o.items.length ≤ 128
  ks : o.parents.length ≤ 127
  hk : kindE o = 0
theorem mayE_bounds {o : ObjT} (h : mayE o = 0) : MayB o := by
  unfold mayE at h
  by_cases hk : o.kind < 1 ∨ 4 < o.kind
  · rw [if_pos hk] at h; cases h
  · rw [if_neg hk] at h
    cases hf : forB o with
    | true => rw [hf] at h; cases h
    | false =>
      rw [hf] at h
      cases hl : longB o with
      | true => rw [hl] at h; cases h
      | false =>
        rw [hl] at h
        unfold longB at hl
        simp only [Bool.or_eq_false_iff, decide_eq_false_iff_not] at hl
        rw [forB_eq] at hf
        exact ⟨by omega, by omega, hf, by omega, by omega, by omega, h⟩
theorem oneP_le (x : PartT) : (oneP x).length ≤ 42 := by
  have := varL_le x.2
  have := x.1.2
  unfold oneP
  rw [List.length_append]
  omega
theorem oneI_le (x : ItemT) (h : x.1.size ≤ 64) : (oneI x).length ≤ 117 := by
  have := varL_le x.1.size
  have := varL_le x.2.2.1
  have := x.2.2.2.2
  unfold oneI
  simp only [List.length_append, strL_length, List.length_singleton]
  omega
theorem oneK_le (x : Key32) : (oneK x).length ≤ 32 := by
  unfold oneK
  rw [x.2]
  exact Nat.le_refl _
end Go.Proofs.YtkjndgapejbgcaaDoor

namespace Go.Proofs.YtkjndgapejbgcaaDoor
open Go.RowKit Go.ChangeShapes Go.WideShapes

section
variable {H : Type} {enc : TypeId × Value → H} {P : Program} {W : World} {r : Reach} {base b0 : Nat} {spare : Nat → Bool} {held : Bool}

theorem trod_float {k : FloatKind} {t : TypeId} {cs : List Value} {fuel : Nat} {x : DataW H × List MemPlace} (ht : P.underlying t = some (.float k)) (h : DataW.trod enc P W base spare held fuel t cs = some x) :
    ∃ b, cs = [.float k b] ∧ (Lit.float k b).wf = true := by
  cases fuel with
  | zero => simp [DataW.trod] at h
  | succ n =>
    unfold DataW.trod at h
    rw [ht] at h
    split at h <;> simp_all

/-- How many elements were read: for the reach. -/
def Held (d : DataW H) (len : Nat) : Prop := (d = .nil ∧ len = 0) ∨ ∃ es sp, d = .slice es sp ∧ es.length = len

theorem Held.reach {d : DataW H} {len j : Nat} (h : Held d len) {ts : List TypeId} {ds : List (DataW H)} {t e : TypeId} {size : Nat} (hsz : (DataW.weightsEach P ts ds).all (· ≤ reachBytes) = true) (hj : ts[j]? = some t) (hd : ds[j]? = some d) (ht : P.underlying t = some (.slice e))
    (hs : P.bytesOf e = size) : len * size ≤ 140737488351232 := by
  rcases h with ⟨_, rfl⟩ | ⟨es, sp, rfl, rfl⟩
  · simp
  · have := sized_slice hsz hj hd ht
    rw [hs] at this
    have h2 : es.length * size ≤ (es.length + sp.length) * size := Nat.mul_le_mul_right _ (by omega)
    have : reachBytes = 140737488351232 := rfl
    omega

/-- A slice, whatever its elements: its cells from A on, element by element. -/
theorem arg_slice {t e : TypeId} {size fuel : Nat} {cs : List Value} {x : DataW H × List MemPlace} (ht : P.underlying t = some (.slice e)) (hc : P.cellsOf e = size) (hs : 0 < size)
    (h : DataW.trod enc P W base spare held fuel t cs = some x) :
    ∃ (A : Option Addr) (len cap : Nat) (V : Nat → Value), cs = [.slice A len cap] ∧ len ≤ cap ∧ cap ≤ maxLen ∧ Rd W W.heap.size A (len * size) V ∧ Held x.1 len ∧
      ∃ n, ∀ i, i < len → ∃ y, DataW.trod enc P W base spare held n e ((List.range size).map fun j => V (i * size + j)) = some y := by
  rcases Go.Deep.open_slice ht h with ⟨rfl, rfl⟩ | ⟨a, len, cap, m, n, D, Pl, rfl, hb, hl, hm, hmm, rfl, hx⟩
  · exact ⟨none, 0, 0, fun _ => undef, rfl, Nat.le_refl _, Nat.zero_le _, by rw [Nat.zero_mul]; exact Rd.empty, .inl ⟨rfl, rfl⟩, 0, fun i hi => absurd hi (by omega)⟩
  · have hlm : len ≤ m := by rw [hmm]; split <;> omega
    refine ⟨some a, len, cap, fun j => (W.cell? (a.add j)).getD undef, rfl, hl, hm, ?_, .inr ⟨_, _, rfl, by simp⟩, n, ?_⟩
    · intro hp
      obtain ⟨b, off, spot⟩ := a
      have cellAt : ∀ j, j < len * size → ∃ u, W.cell? ((⟨b, off, spot⟩ : Addr).add j) = some u := by
        intro j hj
        obtain ⟨cs', hcs, hr⟩ := hx (j / size) (Nat.lt_of_lt_of_le (Nat.div_lt_of_lt_mul (by rwa [Nat.mul_comm] at hj)) hlm)
        rw [hc] at hcs
        obtain ⟨_, hcl, hat⟩ := World.cells?_some hcs
        have hmod : j % size < size := Nat.mod_lt _ hs
        have h1 := hat (j % size) hmod
        rw [Go.Deep.add_add, Nat.mul_comm, Nat.div_add_mod] at h1
        exact ⟨_, h1.trans (List.getElem?_eq_getElem (by omega))⟩
      obtain ⟨u0, hu0⟩ := cellAt 0 hp
      have hspot : spot = none := by simpa [Addr.add] using World.cell?_spot hu0
      subst hspot
      refine ⟨b, off, rfl, ?_, fun j hj => ?_⟩
      · have := World.block_lt_of_cell? _ _ hu0
        simpa [Addr.add] using this
      · obtain ⟨u, hu⟩ := cellAt j hj
        rw [Addr.add_lit] at hu
        simp only [Addr.add_lit, hu, Option.getD_some]
    · intro i hi
      obtain ⟨cs', hcs, hr⟩ := hx i (by omega)
      rw [hc] at hcs
      obtain ⟨_, hcl, hat⟩ := World.cells?_some hcs
      refine ⟨(D i, Pl i), ?_⟩
      rw [← hr]
      congr 1
      apply List.ext_getElem
      · simp [hcl]
      · intro j hj hj2
        have h1 := hat j (by simpa using hj)
        rw [Go.Deep.add_add] at h1
        simp [h1, List.getElem?_eq_getElem hj2]

theorem arg_slice_v {t e : TypeId} {size : Nat} {v : Value} {d : DataW H} {ps : List MemPlace} (ht : P.underlying t = some (.slice e)) (hc : P.cellsOf e = size) (hs : 0 < size)
    (hv : Value.okWide P W r b0 t v) (h : DataW.Trod enc P W base spare held t v d ps) :
    ∃ (A : Option Addr) (len cap : Nat) (V : Nat → Value), v = .slice A len cap ∧ len ≤ cap ∧ cap ≤ maxLen ∧ Rd W W.heap.size A (len * size) V ∧ Held d len ∧
      ∃ n, ∀ i, i < len → ∃ y, DataW.trod enc P W base spare held n e ((List.range size).map fun j => V (i * size + j)) = some y := by
  obtain ⟨a0, len0, cap0, rfl⟩ := okWide_slice ht hv
  obtain ⟨fuel, hf⟩ := h
  obtain ⟨A, len, cap, V, hcs, h1, h2, h3, h4, h5⟩ := arg_slice ht hc hs hf
  simp [Value.cells] at hcs
  obtain ⟨rfl, rfl, rfl⟩ := hcs
  exact ⟨_, _, _, V, rfl, h1, h2, h3, h4, h5⟩

/-- A slice of elements of one cell each, each of one form. -/
theorem arg_slice1 {α : Type} (f : α → Value) {ok : α → Prop} {t e : TypeId} {v : Value} {d : DataW H} {ps : List MemPlace} (ht : P.underlying t = some (.slice e)) (hc : P.cellsOf e = 1)
    (hf : ∀ n c y, DataW.trod enc P W base spare held n e [c] = some y → ∃ z, c = f z ∧ ok z) (z0 : α)
    (hv : Value.okWide P W r b0 t v) (h : DataW.Trod enc P W base spare held t v d ps) :
    ∃ (A : Option Addr) (cap : Nat) (zs : List α), v = .slice A zs.length cap ∧ zs.length ≤ cap ∧ cap ≤ maxLen ∧ Rd W W.heap.size A zs.length (fun j => f (zs[j]?.getD z0)) ∧ Held d zs.length ∧ ∀ z ∈ zs, ok z := by
  obtain ⟨A, len, cap, V, rfl, h1, h2, h3, h4, n, h5⟩ := arg_slice_v ht hc (by omega) hv h
  have h6 : ∀ i, i < len → ∃ z, V i = f z ∧ ok z := fun i hi => by
    obtain ⟨y, hy⟩ := h5 i hi
    exact hf n (V i) y (by simpa using hy)
  have h7 : ∃ zs : List α, zs.length = len ∧ ∀ i, i < len → ∃ z, zs[i]? = some z ∧ V i = f z ∧ ok z := by
    clear h1 h3 h4 h5 h hv
    induction len with
    | zero => exact ⟨[], rfl, fun i hi => absurd hi (by omega)⟩
    | succ k ih =>
      obtain ⟨zs, hl, hz⟩ := ih fun i hi => h6 i (by omega)
      obtain ⟨z, hzz⟩ := h6 k (by omega)
      refine ⟨zs ++ [z], by simp [hl], fun i hi => ?_⟩
      by_cases hik : i < k
      · obtain ⟨z', h', r'⟩ := hz i hik
        exact ⟨z', by rw [List.getElem?_append_left (by omega)]; exact h', r'⟩
      · obtain rfl : i = k := by omega
        exact ⟨z, by simp [← hl], hzz⟩
  obtain ⟨zs, rfl, hz⟩ := h7
  refine ⟨A, cap, zs, rfl, h1, h2, ?_, h4, ?_⟩
  · rw [Nat.mul_one] at h3
    exact h3.congr fun j hj => by
      obtain ⟨z, h', h'', _⟩ := hz j hj
      rw [h'', h', Option.getD_some]
  · intro z hm
    obtain ⟨i, hi, rfl⟩ := List.mem_iff_getElem.1 hm
    obtain ⟨z', h', _, h''⟩ := hz i hi
    rw [List.getElem?_eq_getElem hi] at h'
    cases h'
    exact h''

theorem arg_floats {t e : TypeId} {k : FloatKind} {v : Value} {d : DataW H} {ps : List MemPlace} (ht : P.underlying t = some (.slice e)) (he : P.underlying e = some (.float k)) (hc : P.cellsOf e = 1)
    (hv : Value.okWide P W r b0 t v) (h : DataW.Trod enc P W base spare held t v d ps) :
    ∃ (A : Option Addr) (cap : Nat) (zs : List Nat), v = .slice A zs.length cap ∧ zs.length ≤ cap ∧ cap ≤ maxLen ∧ Rd W W.heap.size A zs.length (fun j => .float k (zs[j]?.getD 0)) ∧ Held d zs.length ∧ ∀ z ∈ zs, (Lit.float k z).wf = true :=
  arg_slice1 (.float k) ht hc (fun n c y hy => by obtain ⟨b, hb, hw⟩ := trod_float he hy; exact ⟨b, by simpa using hb, hw⟩) 0 hv h
theorem arg_ints {t e : TypeId} {k : IntKind} {v : Value} {d : DataW H} {ps : List MemPlace} (ht : P.underlying t = some (.slice e)) (he : P.underlying e = some (.int k)) (hc : P.cellsOf e = 1)
    (hv : Value.okWide P W r b0 t v) (h : DataW.Trod enc P W base spare held t v d ps) :
    ∃ (A : Option Addr) (cap : Nat) (zs : List Int), v = .slice A zs.length cap ∧ zs.length ≤ cap ∧ cap ≤ maxLen ∧ Rd W W.heap.size A zs.length (fun j => .int k (zs[j]?.getD 0)) ∧ Held d zs.length ∧ ∀ z ∈ zs, (Lit.int k z).wf = true :=
  arg_slice1 (.int k) ht hc (fun n c y hy => by obtain ⟨b, hb, _, hw⟩ := DataW.trod_int he hy; exact ⟨b, by simpa using hb, hw⟩) 0 hv h
/-- A slice of bytes: its list of numbers. -/
theorem arg_bytes {t e : TypeId} {v : Value} {d : DataW H} {ps : List MemPlace} (ht : P.underlying t = some (.slice e)) (he : P.underlying e = some (.int .u8)) (hc : P.cellsOf e = 1)
    (hv : Value.okWide P W r b0 t v) (h : DataW.Trod enc P W base spare held t v d ps) :
    ∃ (A : Option Addr) (cap : Nat) (l : List Nat), v = .slice A l.length cap ∧ l.length ≤ cap ∧ cap ≤ maxLen ∧ Byt W W.heap.size A l ∧ Held d l.length ∧ ∀ z ∈ l, z < 256 := by
  obtain ⟨A, cap, zs, rfl, h1, h2, h3, h4, h5⟩ := arg_ints ht he hc hv h
  have h6 : ∀ z ∈ zs, 0 ≤ z ∧ z < 256 := fun z hz => by
    have := h5 z hz
    simp [Lit.wf, IntKind.min, IntKind.max, IntKind.signed, IntKind.bits] at this
    omega
  have hl : (zs.map Int.toNat).length = zs.length := by simp
  refine ⟨A, cap, zs.map Int.toNat, by rw [hl], by rw [hl]; exact h1, h2, ?_, by rw [hl]; exact h4, ?_⟩
  · intro hn
    rw [hl] at hn ⊢
    obtain ⟨b, off, e1, e2, e3⟩ := h3 hn
    refine ⟨b, off, e1, e2, fun j hj => (e3 j hj).trans ?_⟩
    have := h6 _ (List.getElem_mem hj)
    simp only [List.getElem?_map, List.getElem?_eq_getElem hj, Option.map_some, Option.getD_some]
    rw [Int.toNat_of_nonneg this.1]
  · intro z hz
    obtain ⟨x, hx, rfl⟩ := List.mem_map.1 hz
    have := h6 x hx
    omega
theorem arg_bools {t e : TypeId} {v : Value} {d : DataW H} {ps : List MemPlace} (ht : P.underlying t = some (.slice e)) (he : P.underlying e = some .bool) (hc : P.cellsOf e = 1)
    (hv : Value.okWide P W r b0 t v) (h : DataW.Trod enc P W base spare held t v d ps) :
    ∃ (A : Option Addr) (cap : Nat) (zs : List Bool), v = .slice A zs.length cap ∧ zs.length ≤ cap ∧ cap ≤ maxLen ∧ Rd W W.heap.size A zs.length (fun j => .bool (zs[j]?.getD false)) ∧ Held d zs.length ∧ ∀ z ∈ zs, True :=
  arg_slice1 .bool (ok := fun _ => True) ht hc (fun n c y hy => by obtain ⟨b, hb, _⟩ := DataW.trod_bool he hy; exact ⟨b, by simpa using hb, trivial⟩) false hv h
/-- The same of a field's cell. -/
theorem cell_slice1 {α : Type} (f : α → Value) {ok : α → Prop} {t e : TypeId} {fuel : Nat} {c0 : Value} {y : DataW H × List MemPlace} (ht : P.underlying t = some (.slice e)) (hc : P.cellsOf e = 1)
    (hf : ∀ n c y, DataW.trod enc P W base spare held n e [c] = some y → ∃ z, c = f z ∧ ok z) (z0 : α)
    (h : DataW.trod enc P W base spare held fuel t [c0] = some y) :
    ∃ (A : Option Addr) (cap : Nat) (zs : List α), c0 = .slice A zs.length cap ∧ zs.length ≤ cap ∧ cap ≤ maxLen ∧ Rd W W.heap.size A zs.length (fun j => f (zs[j]?.getD z0)) ∧ Held y.1 zs.length ∧ ∀ z ∈ zs, ok z := by
  obtain ⟨A, len, cap, V, hcs, h1, h2, h3, h4, n, h5⟩ := arg_slice ht hc (by omega) h
  simp only [List.cons.injEq, and_true] at hcs
  subst hcs
  have h6 : ∀ i, i < len → ∃ z, V i = f z ∧ ok z := fun i hi => by
    obtain ⟨y, hy⟩ := h5 i hi
    exact hf n (V i) y (by simpa using hy)
  have h7 : ∃ zs : List α, zs.length = len ∧ ∀ i, i < len → ∃ z, zs[i]? = some z ∧ V i = f z ∧ ok z := by
    clear h1 h3 h4 h5 h
    induction len with
    | zero => exact ⟨[], rfl, fun i hi => absurd hi (by omega)⟩
    | succ k ih =>
      obtain ⟨zs, hl, hz⟩ := ih fun i hi => h6 i (by omega)
      obtain ⟨z, hzz⟩ := h6 k (by omega)
      refine ⟨zs ++ [z], by simp [hl], fun i hi => ?_⟩
      by_cases hik : i < k
      · obtain ⟨z', h', r'⟩ := hz i hik
        exact ⟨z', by rw [List.getElem?_append_left (by omega)]; exact h', r'⟩
      · obtain rfl : i = k := by omega
        exact ⟨z, by simp [← hl], hzz⟩
  obtain ⟨zs, rfl, hz⟩ := h7
  refine ⟨A, cap, zs, rfl, h1, h2, ?_, h4, ?_⟩
  · rw [Nat.mul_one] at h3
    exact h3.congr fun j hj => by
      obtain ⟨z, h', h'', _⟩ := hz j hj
      rw [h'', h', Option.getD_some]
  · intro z hm
    obtain ⟨i, hi, rfl⟩ := List.mem_iff_getElem.1 hm
    obtain ⟨z', h', _, h''⟩ := hz i hi
    rw [List.getElem?_eq_getElem hi] at h'
    cases h'
    exact h''
theorem cell_bytes {t e : TypeId} {fuel : Nat} {c0 : Value} {y : DataW H × List MemPlace} (ht : P.underlying t = some (.slice e)) (he : P.underlying e = some (.int .u8)) (hc : P.cellsOf e = 1)
    (h : DataW.trod enc P W base spare held fuel t [c0] = some y) :
    ∃ (A : Option Addr) (cap : Nat) (l : List Nat), c0 = .slice A l.length cap ∧ l.length ≤ cap ∧ cap ≤ maxLen ∧ Byt W W.heap.size A l ∧ Held y.1 l.length ∧ ∀ z ∈ l, z < 256 := by
  obtain ⟨A, cap, zs, rfl, h1, h2, h3, h4, h5⟩ := cell_slice1 (fun z : Nat => .int .u8 (z : Int)) (ok := fun z => z < 256) ht hc (fun n c y hy => by
    obtain ⟨b, hb, _, hw⟩ := DataW.trod_int he hy
    have hw2 : 0 ≤ b ∧ b < 256 := by
      simp [Lit.wf, IntKind.min, IntKind.max, IntKind.signed, IntKind.bits] at hw
      omega
    exact ⟨b.toNat, by simp only [List.cons.injEq, and_true] at hb; rw [hb, Int.toNat_of_nonneg hw2.1], by omega⟩) 0 h
  exact ⟨A, cap, zs, rfl, h1, h2, h3, h4, h5⟩
theorem cell_u8 {t : TypeId} {fuel : Nat} {c0 : Value} {y : DataW H × List MemPlace} (ht : P.underlying t = some (.int .u8)) (h : DataW.trod enc P W base spare held fuel t [c0] = some y) : ∃ b : Nat, c0 = .int .u8 (b : Int) ∧ b < 256 := by
  obtain ⟨b, hb, _, hw⟩ := DataW.trod_int ht h
  have hw2 : 0 ≤ b ∧ b < 256 := by
    simp [Lit.wf, IntKind.min, IntKind.max, IntKind.signed, IntKind.bits] at hw
    omega
  exact ⟨b.toNat, by simp only [List.cons.injEq, and_true] at hb; rw [hb, Int.toNat_of_nonneg hw2.1], by omega⟩
theorem cell_i64 {t : TypeId} {fuel : Nat} {c0 : Value} {y : DataW H × List MemPlace} (ht : P.underlying t = some (.int .i64)) (h : DataW.trod enc P W base spare held fuel t [c0] = some y) : ∃ b : Int, c0 = .int .i64 b ∧ -9223372036854775808 ≤ b ∧ b ≤ 9223372036854775807 := by
  obtain ⟨b, hb, _, hw⟩ := DataW.trod_int ht h
  refine ⟨b, by simpa using hb, ?_⟩
  simp [Lit.wf, IntKind.min, IntKind.max, IntKind.signed, IntKind.bits] at hw
  omega
theorem cell_bool {t : TypeId} {fuel : Nat} {c0 : Value} {y : DataW H × List MemPlace} (ht : P.underlying t = some .bool) (h : DataW.trod enc P W base spare held fuel t [c0] = some y) : ∃ b : Bool, c0 = .bool b := by
  obtain ⟨b, hb, _⟩ := DataW.trod_bool ht h
  exact ⟨b, by simpa using hb⟩
/-- A struct's parts keep within the reach, each. -/
theorem reach_struct {ts : List TypeId} {ds parts : List (DataW H)} {j : Nat} {t : TypeId} {fs : Array Field} (h : (DataW.weightsEach P ts ds).all (· ≤ reachBytes) = true) (hj : ts[j]? = some t) (hd : ds[j]? = some (.agg parts)) (hu : P.underlying t = some (.struct fs)) :
    (DataW.weightsEach P (fs.toList.map (·.type)) parts).all (· ≤ reachBytes) = true := by
  rw [List.all_eq_true] at h ⊢
  intro n hn
  refine h n (DataW.weights_mem_each hj hd n ?_)
  unfold DataW.weights
  rw [hu]
  exact hn
end
end Go.Proofs.YtkjndgapejbgcaaDoor

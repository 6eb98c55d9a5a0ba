/- FrameExact: packs. -/
import Derived.Test.YtjofpjioaiamhaaFxS
namespace Go.Proofs.Ytjofpjioaiamhaa
open Go.RowKit

/-- A list in which the bytes from lo up to hi are one more. -/
def mixL (lo hi : Nat) (l : List Nat) : List Nat := (List.range l.length).map fun i => if lo ≤ i ∧ i < hi then (l[i]?.getD 0 + 1) % 256 else l[i]?.getD 0
theorem mixL_length (lo hi : Nat) (l : List Nat) : (mixL lo hi l).length = l.length := by simp [mixL]
theorem mixL_at (lo hi : Nat) (l : List Nat) {i : Nat} (h : i < l.length) : (mixL lo hi l)[i]? = some (if lo ≤ i ∧ i < hi then (l[i]?.getD 0 + 1) % 256 else l[i]?.getD 0) := by
  unfold mixL
  rw [List.getElem?_map, List.getElem?_range h]
  rfl
theorem mixL_none (k : Nat) (l : List Nat) : mixL k k l = l := by
  apply List.ext_getElem?
  intro i
  rcases Nat.lt_or_ge i l.length with h | h
  · rw [mixL_at _ _ _ h, if_neg (by omega), List.getElem?_eq_getElem h]
    rfl
  · rw [List.getElem?_eq_none (by rw [mixL_length]; exact h), List.getElem?_eq_none h]
theorem mixL_up (k : Nat) (l : List Nat) (hk : k < l.length) : (mixL 0 k l).set k ((l[k]?.getD 0 + 1) % 256) = mixL 0 (k + 1) l := by
  apply List.ext_getElem?
  intro i
  rw [List.getElem?_set]
  rcases Nat.lt_or_ge i l.length with h | h
  · by_cases hi : k = i
    · subst hi
      rw [if_pos rfl, mixL_length, if_pos h, mixL_at _ _ _ h, if_pos (by omega)]
    · rw [if_neg hi, mixL_at _ _ _ h, mixL_at _ _ _ h]
      congr 1
      by_cases h2 : i < k
      · rw [if_pos (by omega), if_pos (by omega)]
      · rw [if_neg (by omega), if_neg (by omega)]
  · rw [if_neg (by omega), List.getElem?_eq_none (by rw [mixL_length]; exact h), List.getElem?_eq_none (by rw [mixL_length]; exact h)]
theorem mixL_dn (k n : Nat) (l : List Nat) (hk : k < l.length) : (mixL k n l).set k (l[k]?.getD 0) = mixL (k + 1) n l := by
  apply List.ext_getElem?
  intro i
  rw [List.getElem?_set]
  rcases Nat.lt_or_ge i l.length with h | h
  · by_cases hi : k = i
    · subst hi
      rw [if_pos rfl, mixL_length, if_pos h, mixL_at _ _ _ h, if_neg (by omega)]
    · rw [if_neg hi, mixL_at _ _ _ h, mixL_at _ _ _ h]
      congr 1
      by_cases h2 : k ≤ i ∧ i < n
      · rw [if_pos h2, if_pos (by omega)]
      · rw [if_neg h2, if_neg (by omega)]
  · rw [if_neg (by omega), List.getElem?_eq_none (by rw [mixL_length]; exact h), List.getElem?_eq_none (by rw [mixL_length]; exact h)]
theorem getD_lt {l : List Nat} (hl : ∀ x ∈ l, x < 256) (i : Nat) : l[i]?.getD 0 < 256 := by
  rcases Nat.lt_or_ge i l.length with h | h
  · rw [List.getElem?_eq_getElem h]
    exact hl _ (List.getElem_mem h)
  · rw [List.getElem?_eq_none h]
    decide
theorem mixL_lt (lo hi : Nat) {l : List Nat} (hl : ∀ x ∈ l, x < 256) : ∀ x ∈ mixL lo hi l, x < 256 := fun x hx => by
  unfold mixL at hx
  obtain ⟨i, _, rfl⟩ := List.mem_map.1 hx
  split
  · exact Nat.mod_lt _ (by decide)
  · exact getD_lt hl i
theorem byt_take {w : World} {B m : Nat} {A : Option Addr} {l : List Nat} (h : Byt w B A l) (hm : m ≤ l.length) : Byt w B A (l.take m) := by
  have h1 := Rd.take h hm
  have e : (l.take m).length = m := by rw [List.length_take]; omega
  unfold Byt
  rw [e]
  exact h1.congr fun j hj => by rw [List.getElem?_take_of_lt hj]

/-- What Pack tells: the error, the record. -/
def packF (l : List Nat) : Nat × List Nat := if l.length ≤ 65526 then (0, recL l) else (60, [])
theorem packF_err {l m : List Nat} (h : l.length = m.length) : (packF l).1 = (packF m).1 := by
  unfold packF
  rw [h]
  split <;> rfl
theorem packF_len (l : List Nat) : (packF l).2.length ≤ 65536 := by
  unfold packF
  split
  · rename_i h
    show (recL l).length ≤ _
    rw [recL_length]
    omega
  · exact Nat.zero_le _
def PackP (w : World) (r : Nat × List Nat) (e : Ending) (w' : World) : Prop :=
  ∃ A' c', e = .returned (.tuple #[.slice A' r.2.length c', .int .i64 (r.1 : Nat)]) ∧ Own w' w.heap.size 5 1 A' r.2.length c' (u8s r.2) ∧ Below w.heap.size w w'
theorem packP_of {w w' : World} {l : List Nat} {n : Nat} {e : Ending} (hn : l.length = n)
    (h : ((∃ A' c', e = .returned (.tuple #[.slice A' (n + 10) c', .int .i64 0]) ∧ Own w' w.heap.size 5 1 A' (n + 10) c' (u8s (recL l)) ∧ n ≤ 65526) ∨ (e = .returned (.tuple #[.slice none 0 0, .int .i64 60]) ∧ 65526 < n)) ∧ Below w.heap.size w w') : PackP w (packF l) e w' := by
  obtain ⟨h, hb⟩ := h
  rcases h with ⟨A', c', rfl, o, hs⟩ | ⟨rfl, hs⟩
  · have e1 : packF l = (0, recL l) := by unfold packF; rw [if_pos (by omega)]
    have e2 : (recL l).length = n + 10 := by rw [recL_length, hn]
    rw [e1]
    refine ⟨A', c', ?_, ?_, hb⟩
    · simp only [e2]; rfl
    · simp only [e2]; exact o
  · have e1 : packF l = (60, []) := by unfold packF; rw [if_neg (by omega)]
    rw [e1]
    exact ⟨none, 0, rfl, Own.nil _ _ _ _, hb⟩
theorem pack_u (l : List Nat) (A : Option Addr) (n c B : Nat) (w : World) (hl : ∀ b ∈ l, b < 256) (hn : l.length = n) (hnm : n ≤ 140737488351232) (hB : B ≤ w.heap.size) (h : Byt w B A l) :
    Calls Try.prog 12 #[.slice A n c] w (PackP w (packF l)) := (pack_any l A n c B w hl hn hnm hB h).mono fun _ _ h => packP_of hn h
theorem pack2_u (l : List Nat) (A : Option Addr) (n c B : Nat) (w : World) (hl : ∀ b ∈ l, b < 256) (hn : l.length = n) (hnm : n ≤ 140737488351232) (hB : B ≤ w.heap.size) (h : Byt w B A l) :
    Calls Try.prog 30 #[.slice A n c] w (PackP w (packF l)) := (pack2_any l A n c B w hl hn hnm hB h).mono fun _ _ h => packP_of hn h

/-- All but one block, and what is new, is as it was. -/
theorem grown_then {a w w' : World} {row : Option Nat} (h : a.grownBy w row) (hb : Below a.heap.size w w') : a.grownBy w' row :=
  ⟨hb.os.trans h.os, hb.tape.trans h.tape, hb.output.trans h.output, Nat.le_trans h.size hb.size, fun k hk hne => (hb.block k hk).trans (h.block k hk hne)⟩
theorem rd_grownBy {W W' : World} {B n g : Nat} {A : Option Addr} {f : Nat → Value} (h : Rd W B A n f) (hg : W.grownBy W' (some g)) (hd : B ≤ g) : Rd W' B A n f := fun hn => by
  obtain ⟨b, off, e, hb, hc⟩ := h hn
  have hbs : b < W.heap.size := World.block_lt_of_cell? _ _ (hc 0 hn)
  exact ⟨b, off, e, hb, fun j hj => (World.cell?_of_block (hg.block b hbs (by intro e; injection e; omega))).trans (hc j hj)⟩

/-- The lists of a slice literal, for own. -/
theorem own_list {W : World} {B : Nat} (zs : List In) (hB : B ≤ W.heap.size) (hO : ∀ x ∈ zs, Own W B 5 1 x.A x.l.length x.c (u8s x.l)) (hlen : ∀ x ∈ zs, x.l.length ≤ 1048576) (hD : zs.Pairwise fun x y => Dis x.A y.A) (hmb : zs.length ≤ 1048576) (t : TypeId) (c : Nat) :
    Calls Try.prog 31 #[.slice (some ⟨W.heap.size, 0, none⟩) zs.length c] (W.alloc (.cells (zs.map In.v).toArray t)) fun e w' => e = .returned (.bool true) ∧ Below B W w' := by
  have hz : ∀ i, zAt zs i ∈ zs ∨ zAt zs i = In.none_ := fun i => by
    unfold zAt
    rcases Nat.lt_or_ge i zs.length with h | h
    · rw [List.getElem?_eq_getElem h]
      exact .inl (List.getElem_mem h)
    · rw [List.getElem?_eq_none h]
      exact .inr rfl
  have hO' : ∀ i, Own W B 5 1 (zAt zs i).A (zAt zs i).l.length (zAt zs i).c (u8s (zAt zs i).l) := fun i => by
    rcases hz i with h | h
    · exact hO _ h
    · rw [h]
      exact Own.nil _ _ _ _
  have hDD : ∀ i j, i < j → Dis (zAt zs i).A (zAt zs j).A := fun i j hij => by
    rcases Nat.lt_or_ge j zs.length with h | h
    · have hi : i < zs.length := by omega
      have h1 := List.pairwise_iff_getElem.1 hD i j hi h hij
      have e1 : zAt zs i = zs[i] := by unfold zAt; rw [List.getElem?_eq_getElem hi]; rfl
      have e2 : zAt zs j = zs[j] := by unfold zAt; rw [List.getElem?_eq_getElem h]; rfl
      rw [e1, e2]
      exact h1
    · have e2 : zAt zs j = In.none_ := by unfold zAt; rw [List.getElem?_eq_none h]; rfl
      rw [e2]
      intro k _ h2
      cases h2
  have hb0 : Below W.heap.size W (W.alloc (.cells (zs.map In.v).toArray t)) := (Below.refl _ _).alloc (Nat.le_refl _) _
  refine (own_any zs (some ⟨W.heap.size, 0, none⟩) zs.length c B _ rfl hmb ?_ (fun i => (hO' i).alloc _) (fun i => ?_) (fun i j hij => ?_) (fun i => ?_) (by simp; omega)).mono fun e w' h => ⟨h.1, (hb0.mono hB).trans h.2⟩
  · intro h0
    refine ⟨W.heap.size, 0, rfl, by simp, fun j hj => ?_⟩
    have e : zAt zs j = zs[j] := by unfold zAt; rw [List.getElem?_eq_getElem hj]; rfl
    simp only [Nat.zero_add]
    refine (cell_of_row _ _ j _ _ _ (heap_alloc_new W _)).trans ?_
    rw [e]
    simp [hj]
  · rcases hz i with h | h
    · exact hlen _ h
    · rw [h]
      exact Nat.zero_le _
  · rcases Nat.lt_trichotomy i j with h | h | h
    · exact hDD i j h
    · exact absurd h hij
    · exact (hDD j i h).symm
  · intro k h1 h2
    have h3 := ((hO' i).lt k h2).2
    have h4 : W.heap.size = k := by injection h1
    omega
theorem own_set_mix {W : World} {D g n c k x : Nat} {l m : List Nat} (h : Own W D 5 1 (some ⟨g, 0, none⟩) n c (u8s l)) (e : l.set k x = m) : Own (W.setCell ⟨g, k, none⟩ (.int .u8 (x : Nat))) D 5 1 (some ⟨g, 0, none⟩) n c (u8s m) := by
  have := h.set k (.int .u8 (x : Nat))
  rw [u8s_setR, e] at this
  exact this

set_option maxRecDepth 20000 in
set_option maxHeartbeats 1000000 in
theorem fxpacks_any (bl : List Nat) (AB : Option Addr) (v1 v2 v3 : Value) (gb n cB cb D : Nat) (w : World) (hl : ∀ b ∈ bl, b < 256) (hn : bl.length = n) (hnB : n ≤ 140737488351232) (h1 : Byt w D AB bl) (hD : D ≤ w.heap.size)
    (ho : Own w D 5 1 (some ⟨gb, 0, none⟩) (n + 70) cb (u8s (roomL bl))) :
    Calls Try.prog 18 #[.agg #[.slice AB n cB, v1, v2, v3], .slice (some ⟨gb, 0, none⟩) n cb] w fun e w' => e = .returned (.bool true) ∧ w.grownBy w' (some gb) ∧ Own w' D 5 1 (some ⟨gb, 0, none⟩) (n + 70) cb (u8s (roomL bl)) := by
  obtain ⟨f, R, hf⟩ : ∃ f R, packF bl = (f, R) := ⟨_, _, rfl⟩
  have hRm : R.length ≤ 65536 := by
    have := packF_len bl
    rw [hf] at this
    exact this
  have hgb := ho.lt gb rfl
  have hrt : (roomL bl).take n = bl := by rw [← hn]; exact roomL_take bl
  have hp2 : Hid (∀ (W : World), Below w.heap.size w W → Calls Try.prog 30 #[.slice AB n cB] W (PackP W (f, R))) := Lib.hid fun W hb => by
    rw [← hf]
    exact pack2_u bl AB n cB D W hl hn hnB (Nat.le_trans hD hb.size) (h1.below (hb.mono hD))
  have hp1 : Hid (∀ (W : World), Below w.heap.size w W → Calls Try.prog 12 #[.slice (some ⟨gb, 0, none⟩) n cb] W (PackP W (f, R))) := Lib.hid fun W hb => by
    rw [← hf]
    have h2 := byt_take (m := n) ho.byt (by rw [roomL_length]; omega)
    rw [hrt] at h2
    exact pack_u bl _ n cb w.heap.size W hl hn hnB hb.size (h2.below hb)
  have hb0 := Lib.hid (Hb.new w 39 (.slice AB n cB) v1 v2 v3)
  have ho' := Lib.hid ho
  have hl' := Lib.hid hl
  have hn' := Lib.hid hn
  have hf' := Lib.hid hf
  clear hl hn h1 ho hf hrt
  go_enter Try.func18, Try.ntmps18
  go_wp2_with fail
  obtain ⟨w1, hw1⟩ : ∃ w1, w.alloc (.cells #[.slice AB n cB, v1, v2, v3] 39) = w1 := ⟨_, rfl⟩
  rw [hw1] at hb0 ⊢
  clear hw1
  obtain ⟨q0, _, _, _, hb1⟩ := hb0.out
  have hb1' := Lib.hid hb1
  clear hb1
  go_wp2_with (first
    | (go_at_call 30; refine (hp2.out _ hb1'.out).mono ?_; rintro e w2 ⟨Aw, cw, rfl, ow, hb2⟩; have ow' := Lib.hid ow; have hB2 := Lib.hid (hb1'.out.trans (hb2.mono hb1'.out.size)); clear ow hb2 hp2 q0)
    | (go_at_call 12; refine (hp1.out _ hB2.out).mono ?_; rintro e w3 ⟨Aa, ca, rfl, oa, hb3⟩; have oa' := Lib.hid oa; have hB3 := Lib.hid (hB2.out.trans (hb3.mono hB2.out.size)); have ow3 := Lib.hid (ow'.out.below hb3 fun k hk => (ow'.out.lt k hk).2); have hp1' := Lib.hid hp1.out; clear oa hb3 hp1 ow')
    | (go_at_call 12; refine (hp1'.out _ hB3.out).mono ?_; rintro e w4 ⟨Ab, cb2, rfl, ob, hb4⟩; have ob' := Lib.hid ob; have hB4 := Lib.hid (hB3.out.trans (hb4.mono hB3.out.size)); have ow4 := Lib.hid (ow3.out.below hb4 fun k hk => (ow3.out.lt k hk).2); have oa4 := Lib.hid (oa'.out.below hb4 fun k hk => (oa'.out.lt k hk).2); have dab := Lib.hid (Dis.of_lt (fun k hk => (oa'.out.lt k hk).2) (fun k hk => (ob'.out.lt k hk).1)); have s4 := Lib.hid hb4.size; clear ob hb4 hp1' ow3))
  have oax := Lib.hid oa4.out
  go_wp2_with (first
    | (go_at_call 15; refine (same_eq Aa Aw ca cw R.length (fun j => ((R[j]?.getD 0 : Nat) : Int)) _ _ _ (by omega) (oax.out.bs rfl) (ow4.out.bs rfl)).mono ?_; rintro e w' ⟨rfl, k1, rfl⟩; clear oax)
    | (go_at_call 15; refine (same_eq Ab Aw cb2 cw R.length (fun j => ((R[j]?.getD 0 : Nat) : Int)) _ _ _ (by omega) ((ob'.out.drewN _).bs rfl) ((ow4.out.drewN _).bs rfl)).mono ?_; rintro e w' ⟨rfl, k2, rfl⟩))
  have hm0 := ho'.out.below hB4.out (fun k hk => (ho'.out.lt k hk).2)
  rw [← mixL_none 0 (roomL bl)] at hm0
  have hm0' := Lib.hid hm0
  clear hm0
  go_loopw [11] (fun i wr => ∃ k : Nat, k ≤ n ∧ i = .int .i64 k ∧ Hid (Own wr D 5 1 (some ⟨gb, 0, none⟩) (n + 70) cb (u8s (mixL 0 k (roomL bl))) ∧ w4.grownBy wr (some gb))) (fun i _ => n - (intOf i).toNat)
  case atStart => exact ⟨0, by omega, rfl, Lib.hid ⟨hm0'.out.drewN _, ⟨rfl, rfl, rfl, Nat.le_refl _, fun _ _ _ => rfl⟩⟩⟩
  case round =>
    clear hm0'
    obtain ⟨k, hk, rfl, hW⟩ := hrel
    by_cases hlt : k < n
    · have hrl := roomL_length bl
      rw [hn'.out] at hrl
      obtain ⟨x, hx⟩ : ∃ x, (roomL bl)[k]?.getD 0 = x := ⟨_, rfl⟩
      have q : wr.cell? ⟨gb, k, none⟩ = some (.int .u8 (x : Nat)) := (hW.out.1.cell k (by omega)).trans (by rw [u8s_get _ _ (by rw [mixL_length]; omega), mixL_at _ _ _ (by omega), if_neg (by omega), hx]; rfl)
      have qf := hW.out.1.frozen k
      have hmu := Lib.hid (mixL_up k (roomL bl) (by omega))
      rw [hx] at hmu
      obtain ⟨y, hy⟩ : ∃ y, (x + 1) % 256 = y := ⟨_, rfl⟩
      rw [hy] at hmu
      have hwr : IntKind.u8.wrap ((x : Int) + 1) = (y : Int) := by rw [IntKind.wrap_u8]; omega
      clear hy hx
      go_wp2_with fail
      go_roundw
      case rel => exact ⟨k + 1, by omega, by go_num, Lib.hid ⟨own_set_mix hW.out.1 hmu.out, hW.out.2.trans (hW.out.1.set_grown _ _)⟩⟩
      case measure => simp [intOf]; omega
    · obtain rfl : n = k := by omega
      clear hlt hk
      obtain ⟨R2, hf2⟩ : ∃ R2, packF ((mixL 0 n (roomL bl)).take n) = (f, R2) := ⟨(packF ((mixL 0 n (roomL bl)).take n)).2, by
        have := packF_err (l := (mixL 0 n (roomL bl)).take n) (m := bl) (by rw [List.length_take, mixL_length, roomL_length, hn'.out]; omega)
        rw [hf'.out] at this
        exact Prod.ext this rfl⟩
      have hRm2 : R2.length ≤ 65536 := by
        have := packF_len ((mixL 0 n (roomL bl)).take n)
        rw [hf2] at this
        exact this
      have htl : ((mixL 0 n (roomL bl)).take n).length = n := by rw [List.length_take, mixL_length, roomL_length, hn'.out]; omega
      have htb : ∀ b ∈ (mixL 0 n (roomL bl)).take n, b < 256 := fun b hb => mixL_lt _ _ (roomL_lt bl hl'.out) b (List.mem_of_mem_take hb)
      have h2 := byt_take (m := n) hW.out.1.byt (by rw [mixL_length, roomL_length, hn'.out]; omega)
      have hp1 : Hid (∀ (W : World), Below wr.heap.size wr W → Calls Try.prog 12 #[.slice (some ⟨gb, 0, none⟩) n cb] W (PackP W (f, R2))) := Lib.hid fun W hb => by
        rw [← hf2]
        exact pack_u _ _ n cb wr.heap.size W htb htl hnB hb.size (h2.below hb)
      have hp2 : Hid (∀ (W : World), Below wr.heap.size wr W → Calls Try.prog 30 #[.slice (some ⟨gb, 0, none⟩) n cb] W (PackP W (f, R2))) := Lib.hid fun W hb => by
        rw [← hf2]
        exact pack2_u _ _ n cb wr.heap.size W htb htl hnB hb.size (h2.below hb)
      have ne : ∀ {c : Nat} {A : Option Addr} {m : Nat} {xs : List Value} (_ : Own w4 w.heap.size 5 1 A m c xs), ∀ k, blockOf A = some k → (some gb : Option Nat) ≠ some k := fun h k hk e => by
        have := (h.lt k hk).1
        injection e
        omega
      have oa5 := oa4.out.base hB2.out.size
      have ob5 := ob'.out.base hB3.out.size
      have ow5 := ow4.out.base hb1'.out.size
      have oa6 := Lib.hid (oa5.kept hW.out.2 (ne oa5))
      have ob6 := Lib.hid (ob5.kept hW.out.2 (ne ob5))
      have ow6 := Lib.hid (ow5.kept hW.out.2 (ne ow5))
      have hG := Lib.hid (grown_then (grown_then (World.grownBy.refl w (some gb)) hB4.out) (Below.refl _ _) |>.trans hW.out.2)
      have hbd := Lib.hid hW.out.1
      have s5 := hW.out.2.size
      clear ne oa4 ob' ow4 oa5 ob5 ow5 h2 htl htb hf2 hW
      go_wp2_with (first
        | (go_at_call 12; refine (hp1.out _ (Below.refl _ _)).mono ?_; rintro e w6 ⟨Ac, cc, rfl, oc, hb6⟩; have oc' := Lib.hid oc; have hB6 := Lib.hid hb6; clear oc hb6 hp1)
        | (go_at_call 30; refine (hp2.out _ hB6.out).mono ?_; rintro e w7 ⟨At, ct, rfl, ot, hb7⟩; have ot' := Lib.hid ot; have hB7 := Lib.hid hb7; clear ot hb7 hp2))
      have hB67 := Lib.hid (hB6.out.trans (hB7.out.mono hB6.out.size))
      have oa7 := Lib.hid (oa6.out.below hB67.out fun k hk => (oa6.out.lt k hk).2)
      have ob7 := Lib.hid (ob6.out.below hB67.out fun k hk => (ob6.out.lt k hk).2)
      have ow7 := Lib.hid (ow6.out.below hB67.out fun k hk => (ow6.out.lt k hk).2)
      have oc7 := Lib.hid ((oc'.out.below hB7.out fun k hk => (oc'.out.lt k hk).2).base hG.out.size)
      have hbd7 := Lib.hid (hbd.out.below hB67.out fun k hk => (hbd.out.lt k hk).2)
      have dac := Lib.hid (Dis.of_lt (fun k hk => (oa6.out.lt k hk).2) (fun k hk => (oc'.out.lt k hk).1))
      have dbc := Lib.hid (Dis.of_lt (fun k hk => (ob6.out.lt k hk).2) (fun k hk => (oc'.out.lt k hk).1))
      have oa7x := Lib.hid oa7.out
      have ot7x := Lib.hid ot'.out
      clear oa6 ob6 ow6 hbd
      go_wp2_with (first
        | (go_at_call 15; refine (same_eq Ac At cc ct R2.length (fun j => ((R2[j]?.getD 0 : Nat) : Int)) _ _ _ (by omega) (oc7.out.bs rfl) (ot7x.out.bs rfl)).mono ?_; rintro e w' ⟨rfl, k3, rfl⟩; clear ot7x)
        | (go_at_call 15; refine (same_eq Aa Aw ca cw R.length (fun j => ((R[j]?.getD 0 : Nat) : Int)) _ _ _ (by omega) ((oa7x.out.drewN _).bs rfl) ((ow7.out.drewN _).bs rfl)).mono ?_; rintro e w' ⟨rfl, k4, rfl⟩; clear oa7x)
        | (go_at_call 15; refine (same_eq Ab Aw cb2 cw R.length (fun j => ((R[j]?.getD 0 : Nat) : Int)) _ _ _ (by omega) ((ob7.out.drewN _).bs rfl) ((ow7.out.drewN _).bs rfl)).mono ?_; rintro e w' ⟨rfl, k5, rfl⟩))
      go_loopw [17] (fun i wv => ∃ k : Nat, k ≤ n ∧ i = .int .i64 k ∧ Hid (Own wv D 5 1 (some ⟨gb, 0, none⟩) (n + 70) cb (u8s (mixL k n (roomL bl))) ∧ w7.grownBy wv (some gb))) (fun i _ => n - (intOf i).toNat)
      case atStart => exact ⟨0, by omega, rfl, Lib.hid ⟨hbd7.out.drewN _, ⟨rfl, rfl, rfl, Nat.le_refl _, fun _ _ _ => rfl⟩⟩⟩
      case round =>
        clear hbd7
        obtain ⟨k, hk, rfl, hW⟩ := hrel
        by_cases hlt : k < n
        · have hrl := roomL_length bl
          rw [hn'.out] at hrl
          obtain ⟨x, hx⟩ : ∃ x, (roomL bl)[k]?.getD 0 = x := ⟨_, rfl⟩
          have hxl : x < 256 := by rw [← hx]; exact getD_lt (roomL_lt bl hl'.out) k
          obtain ⟨y, hy⟩ : ∃ y, (x + 1) % 256 = y := ⟨_, rfl⟩
          have q : wr.cell? ⟨gb, k, none⟩ = some (.int .u8 (y : Nat)) := (hW.out.1.cell k (by omega)).trans (by rw [u8s_get _ _ (by rw [mixL_length]; omega), mixL_at _ _ _ (by omega), if_pos ⟨Nat.le_refl _, hlt⟩, hx, hy]; rfl)
          have qf := hW.out.1.frozen k
          have hmu := Lib.hid (mixL_dn k n (roomL bl) (by omega))
          rw [hx] at hmu
          have hwr : IntKind.u8.wrap ((y : Int) - 1) = (x : Int) := by rw [IntKind.wrap_u8]; omega
          clear hy hx
          go_wp2_with fail
          go_roundw
          case rel => exact ⟨k + 1, by omega, by go_num, Lib.hid ⟨own_set_mix hW.out.1 hmu.out, hW.out.2.trans (hW.out.1.set_grown _ _)⟩⟩
          case measure => simp [intOf]; omega
        · obtain rfl : n = k := by omega
          have ne : ∀ {c : Nat} {A : Option Addr} {m : Nat} {xs : List Value} (_ : Own w7 w.heap.size 5 1 A m c xs), ∀ k, blockOf A = some k → (some gb : Option Nat) ≠ some k := fun h k hk e => by
            have := (h.lt k hk).1
            injection e
            omega
          have oa8 := oa7.out.kept hW.out.2 (ne oa7.out)
          have ob8 := ob7.out.kept hW.out.2 (ne ob7.out)
          have oc8 := oc7.out.kept hW.out.2 (ne oc7.out)
          have hbd := hW.out.1
          rw [mixL_none] at hbd
          have hbd' := Lib.hid hbd
          have hG8 := Lib.hid ((grown_then hG.out (hB67.out.mono hG.out.size)).trans hW.out.2)
          have hown := Lib.hid (own_list (W := wr) (B := w.heap.size) [⟨Aa, R, ca⟩, ⟨Ab, R, cb2⟩, ⟨Ac, R2, cc⟩] hG8.out.size (by
            intro x hx
            simp only [List.mem_cons, List.not_mem_nil, or_false] at hx
            rcases hx with rfl | rfl | rfl
            · exact oa8
            · exact ob8
            · exact oc8) (by
            intro x hx
            simp only [List.mem_cons, List.not_mem_nil, or_false] at hx
            rcases hx with rfl | rfl | rfl
            · show R.length ≤ _
              omega
            · show R.length ≤ _
              omega
            · show R2.length ≤ _
              omega) (by
            simp only [List.pairwise_cons, List.mem_cons, List.not_mem_nil, or_false, forall_eq_or_imp, forall_eq, false_imp_iff, implies_true, and_true, List.Pairwise.nil]
            exact ⟨⟨dab.out, dac.out⟩, dbc.out⟩) (by simp) 23 3)
          clear ne oa8 ob8 oc8 hbd oa7 ob7 oc7 hW hlt hk
          go_wp2_with (go_at_call 31; refine hown.out.mono ?_; rintro e w9 ⟨rfl, hb9⟩)
          go_ret
          exact ⟨rfl, grown_then hG8.out hb9, hbd'.out.below hb9 fun k hk => by cases hk; exact hgb.2⟩
end Go.Proofs.Ytjofpjioaiamhaa

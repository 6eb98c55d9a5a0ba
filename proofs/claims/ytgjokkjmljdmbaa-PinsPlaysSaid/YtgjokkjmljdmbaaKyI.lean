/- All: an iterator over a set's keys; a range over it. -/
import Derived.Test.YtgjokkjmljdmbaaKyS2
import Derived.Test.YtgjokkjmljdmbaaRfA
namespace Go.Proofs.Ytgjokkjmljdmbaa
open Go.RowKit Go.Maps Go.Shelf
set_option linter.unusedSimpArgs false
set_option linter.unusedVariables false
attribute [local go_sem] Oper.semAt_some

/-- An iterator's variable at g, its row of keys. -/
def AllAt (w : World) (g : Nat) (A : Option Addr) (c : Nat) (ks : List (List Nat)) : Prop :=
  w.heap[g]? = some (.cells #[.slice A ks.length c] 32 (0, 0)) ∧ Own w 0 29 32 A ks.length c (rowsK ks)
theorem own_same {w w' : World} {B : Nat} {e : TypeId} {size n c : Nat} {A : Option Addr} {xs : List Value} (h : Own w B e size A n c xs) (hk : ∀ k, blockOf A = some k → w'.heap[k]? = w.heap[k]?) : Own w' B e size A n c xs := by
  refine ⟨h.1, ?_⟩
  rcases h.2 with h0 | ⟨g, cap, cur, hv, hg, hh, rest⟩
  · exact .inl h0
  · have hv' := hv
    injection hv' with hA
    subst hA
    exact .inr ⟨g, cap, cur, hv, hg, (hk g rfl).trans hh, rest⟩
theorem AllAt.keep {w w' : World} {g c : Nat} {A : Option Addr} {ks : List (List Nat)} (h : AllAt w g A c ks) (h1 : w'.heap[g]? = w.heap[g]?) (h2 : ∀ k, blockOf A = some k → w'.heap[k]? = w.heap[k]?) : AllAt w' g A c ks :=
  ⟨h1.trans h.1, own_same h.2 h2⟩
theorem AllAt.cell {w : World} {g c : Nat} {A : Option Addr} {ks : List (List Nat)} (h : AllAt w g A c ks) : w.cell? ⟨g, 0, none⟩ = some (.slice A ks.length c) := by
  unfold World.cell?
  simp [h.1]
theorem AllAt.lts {w : World} {g c : Nat} {A : Option Addr} {ks : List (List Nat)} (h : AllAt w g A c ks) : g < w.heap.size ∧ ∀ k, blockOf A = some k → k < w.heap.size :=
  ⟨(Array.getElem?_eq_some_iff.1 h.1).1, fun k hk => (h.2.lt k hk).2⟩
theorem AllAt.below {w w' : World} {g c B : Nat} {A : Option Addr} {ks : List (List Nat)} (h : AllAt w g A c ks) (hb : Below B w w') (hB : w.heap.size ≤ B) : AllAt w' g A c ks :=
  h.keep (hb.block _ (by have := h.lts.1; omega)) (fun k hk => hb.block _ (by have := h.lts.2 k hk; omega))
def AllP (w : World) (ks : List (List Nat)) (e : Ending) (w' : World) : Prop :=
  ∃ g A c, e = .returned (.func (.func 50) #[] #[.pointer (some ⟨g, 0, none⟩)]) ∧ AllAt w' g A c ks ∧ Below w.heap.size w w' ∧ w.heap.size ≤ g ∧ ∀ k, blockOf A = some k → w.heap.size ≤ k
set_option maxRecDepth 100000 in
set_option maxHeartbeats 1000000 in
theorem allK_any (w : World) (s m n : Nat) (ks : List (List Nat)) (h : SetK w s m n ks) (hn : ks.length * 40 + 8000 ≤ 281474976710656) :
    Calls Try.prog 46 #[.pointer (some ⟨s, 0, none⟩)] w (AllP w ks) := by
  have hS := Lib.hid (sorted_any w s m n ks h hn)
  have hfin : Hid (∀ w2 A c, Own w2 w.heap.size 29 32 A ks.length c (rowsK ks) → Below w.heap.size w w2 →
      AllP w ks (.returned (.func (.func 50) #[] #[.pointer (some ⟨w2.heap.size, 0, none⟩)])) (w2.alloc (.cells #[.slice A ks.length c] 32))) := Lib.hid fun w2 A c ho hb =>
    ⟨w2.heap.size, A, c, rfl, ⟨heap_alloc_new w2 _, (ho.alloc _).base (Nat.zero_le _)⟩, hb.alloc hb.size _, hb.size, fun k hk => (ho.lt k hk).1⟩
  obtain ⟨Q, hQ⟩ : ∃ Q, AllP w ks = Q := ⟨_, rfl⟩
  obtain ⟨N, hN⟩ : ∃ N, ks.length = N := ⟨_, rfl⟩
  unfold SortedP at hS
  rw [hQ] at hfin ⊢
  rw [hN] at hfin hS
  clear hQ hN h hn
  go_enter Try.func46, Try.ntmps46
  go_wp2_with (go_at_call 49; refine hS.out.mono ?_; rintro e w2 ⟨A, c, rfl, ho, hb⟩; have hf := Lib.hid (hfin.out _ _ _ ho hb); clear ho hb hS)
  exact hf.out
/-- What is told ahead of a round. -/
def KyG (ks : List (List Nat)) (W0 W1 : World) (pre : List (List Nat)) (x : List Nat) : Prop := pre ++ [x] <+: ks ∧ Below W0.heap.size W0 W1
theorem pre_of_take {ks : List (List Nat)} {k : Nat} {x : List Nat} (hx : ks[k]? = some x) : ks.take k ++ [x] <+: ks := by
  have := List.take_prefix (k + 1) ks
  rwa [List.take_add_one, hx, Option.toList_some] at this
set_option maxRecDepth 20000 in
set_option maxHeartbeats 2000000 in
theorem allK_seq (w : World) (g c : Nat) (A : Option Addr) (ks : List (List Nat)) (ok : Nat → Prop) (h : AllAt w g A c ks) (hr : Rise32 ks) (hL : ks.length < 140737488355328) (hg : ok g) (hA : ∀ k, blockOf A = some k → ok k) (hok : ∀ k, ok k → k < w.heap.size) :
    SeqW Try.prog 50 #[.pointer (some ⟨g, 0, none⟩)] (fun x : List Nat => #[Value.agg (u8s x).toArray]) (KyG ks) (fun xs => xs = ks) (fun q => q <+: ks) ok w := by
  intro lp J Jx W hW h0 hY
  have hAt : ∀ W', Mid ok w W' → AllAt W' g A c ks := fun W' hW' => h.keep (hW'.block g hg) (fun k hk => hW'.block k (hA k hk))
  have hc : W.cell? ⟨g, 0, none⟩ = some (.slice A ks.length c) := (hAt W hW).cell
  obtain ⟨N, hN⟩ : ∃ N, ks.length = N := ⟨_, rfl⟩
  have hAt' := Lib.hid hAt
  have hW0 := Lib.hid hok
  have hY' := Lib.hid hY
  have hW' := Lib.hid hW
  have hr' := Lib.hid hr
  rw [hN] at hc hL
  have hN' := Lib.hid hN
  have hi32 : Hid ((Try.prog.info? 29).map (·.size) = some 32) := Lib.hid (by kernel_rfl)
  have hzs : Hid ((u8s (zeros 32)).toArray.size = 32) := Lib.hid (by simp [u8s, zeros])
  have hzk := zeroKy
  clear hY hW hAt h hg hA hr hN hok
  refine callsIn_of_wp Try.func50 rfl trivial ?_ rfl
  simp only [Try.ntmps50, List.size_toArray, List.length_cons, List.length_nil, Nat.reduceAdd, Nat.reduceSub, Array.replicate_succ, Array.replicate_zero, List.push_toArray, List.append_toArray, List.nil_append, List.cons_append]
  gi_wp2
  gi_loopw [7] (fun i wr => ∃ k : Nat, k ≤ N ∧ i = .int .i64 k ∧ J (ks.take k) wr ∧ Mid ok w wr) (fun i _ => N - (intOf i).toNat)
  case atStart => exact ⟨0, by omega, rfl, by simpa using h0, hW'.out⟩
  case round =>
    clear hc h0
    obtain ⟨k, hk, rfl, hJ, hM⟩ := hrel
    have hJ' := Lib.hid hJ
    have hM' := Lib.hid hM
    clear hJ hM
    by_cases hlt : k < N
    · obtain ⟨x, hx⟩ : ∃ x, ks[k]? = some x := ⟨_, List.getElem?_eq_getElem (by rw [hN'.out]; exact hlt)⟩
      have hxk : IsK x := hr'.out.ok x (List.mem_of_getElem? hx)
      obtain ⟨b, off, rfl, hbl, hrg⟩ := ownK_at (hAt'.out wr hM'.out).2 (fun y hy => (hr'.out.ok y hy).1) hx
      have hrg' := Lib.hid hrg
      have hxs : Hid ((u8s x).toArray.size = 32) := Lib.hid (by simp [u8s, hxk.1])
      have hxl : Hid ((u8s x).length = 32) := Lib.hid (by simp [u8s, hxk.1])
      have hpre : Hid (ks.take k ++ [x] <+: ks) := Lib.hid (pre_of_take hx)
      have htk : Hid (ks.take (k + 1) = ks.take k ++ [x]) := Lib.hid (by rw [List.take_add_one, hx, Option.toList_some])
      have hkn := key_new wr x
      have hkc := Lib.hid hkn.1
      have hbn := Lib.hid hkn.2
      clear hx hrg hkn
      gi_wp2_with (first
        | (refine wpListIn_load_mid (by rfl) 29 _ rfl b (off + k * 32) rfl (u8s x) _ hrg'.out Try.underlying29 rfl (by rw [hxl.out]; exact hi32.out) ?_)
        | (refine wpListIn_store_row (by rfl) 29 _ _ rfl wr.heap.size (u8s x).toArray rfl rfl 29 _ (heap_alloc_new wr _) (by rw [hxs.out]; exact hi32.out) (by rw [hxs.out, hzs.out]) (all_oneCell_toArray u8s_one) ?_
           generalize ((wr.alloc (.cells (u8s (zeros 32)).toArray 29)).setRow wr.heap.size (u8s x).toArray) = w5 at hkc hbn ⊢
           generalize hgk : wr.heap.size = gk at hkc ⊢
           clear hgk)
        | (refine wpListIn_load_row (by rfl) 29 _ rfl gk rfl 29 (u8s x).toArray (0, 0) _ hkc.out Try.underlying29 rfl (by rw [hxs.out]; exact hi32.out) ?_
           obtain ⟨fn, tmps, assign, body_, hy, hR⟩ := hY'.out (ks.take k) x wr w5 hJ'.out ⟨hpre.out, hbn.out⟩))
      refine ⟨rfl, hR.mono ?_⟩
      rintro e W' (⟨rfl, hJ3, hb3⟩ | ⟨rfl, hJx⟩)
      · have hb4 : Mid ok w W' := (hM'.out.trans ⟨hbn.out.size, fun j hj => hbn.out.block j (Nat.lt_of_lt_of_le (hW0.out j hj) hM'.out.size)⟩).trans hb3
        have hJ4 : J (ks.take (k + 1)) W' := by rw [htk.out]; exact hJ3
        clear hb3 hJ3 hy hR
        gi_wp2
        go_roundw
        case rel => exact ⟨k + 1, by omega, by go_num, hJ4, hb4⟩
        case measure => simp [intOf]; omega
      · gi_wp2
        refine bodyPost_ret (results_none rfl _ _ _) rfl ?_
        exact ⟨⟨_, rfl⟩, .inr ⟨_, hpre.out, hJx⟩⟩
    · have hall : Hid (ks.take k = ks) := Lib.hid (List.take_of_length_le (by rw [hN'.out]; omega))
      gi_wp2
      go_end0
      exact ⟨⟨_, rfl⟩, .inl ⟨_, wr, hall.out, hJ'.out, Below.refl _ _⟩⟩
end Go.Proofs.Ytgjokkjmljdmbaa

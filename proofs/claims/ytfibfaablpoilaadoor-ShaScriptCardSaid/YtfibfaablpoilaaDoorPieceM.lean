/- Two Hashers and two lists beside one another: what stands. No program is named here. -/
import Derived.Test.YtfibfaablpoilaaDoorLivesW
import Derived.Test.YtfibfaablpoilaaDoorParts
namespace Go.Proofs.YtfibfaablpoilaaDoor
open Go.RowKit

theorem Own.chg {w w' : World} {g o m B e size n c : Nat} {A : Option Addr} {xs : List Value} (h : Own w B e size A n c xs) (hc : Chg w w' g o m) (hA : blockOf A ≠ some g) : Own w' B e size A n c xs := by
  refine ⟨h.1, ?_⟩
  rcases h.2 with h0 | ⟨b, cap, cur, hv, hb, hh, rest⟩
  · exact .inl h0
  · have hA' : A = some ⟨b, 0, none⟩ := by injection hv
    exact .inr ⟨b, cap, cur, hv, hb, (hc.block b (lt_of_block hh) (fun e => hA (by rw [hA', ← e]; rfl))).trans hh, rest⟩
theorem Has.far {w w' : World} {g o : Nat} {ks l : List Nat} (h : Has w g o ks l) (hb : w'.heap[g]? = w.heap[g]?) : Has w' g o ks l := by
  obtain ⟨rs, ⟨st, bg, hH, hs⟩, hr⟩ := h
  exact ⟨rs, ⟨st, bg, hH.block hb, hs⟩, hr⟩

/-- Two Hashers, in blocks gH and gF; the lists 'whole' and 'other'. -/
structure PS (w0 : World) (gH gF : Nat) (ks : List Nat) (W : World) (mh mf : List Nat) (Aw : Option Addr) (nw cw : Nat) (mw : List Nat) (Ao : Option Addr) (no co : Nat) (mo : List Nat) : Prop where
  bel : Below w0.heap.size w0 W
  hh : Has W gH 0 ks mh
  hf : Has W gF 0 ks mf
  ow : Own W w0.heap.size 5 1 Aw nw cw (u8s mw)
  oo : Own W w0.heap.size 5 1 Ao no co (u8s mo)
  wo : Dis Aw Ao
  wH : blockOf Aw ≠ some gH
  wF : blockOf Aw ≠ some gF
  oH : blockOf Ao ≠ some gH
  oF : blockOf Ao ≠ some gF
  HF : gH ≠ gF
  bH : w0.heap.size ≤ gH
  bF : w0.heap.size ≤ gF
section
variable {w0 : World} {gH gF : Nat} {ks : List Nat} {W W' : World} {mh mf mw mo b : List Nat} {Aw Ao A' : Option Addr} {nw cw no co n' c' : Nat}
theorem PS.keep (h : PS w0 gH gF ks W mh mf Aw nw cw mw Ao no co mo) (hb : Below W.heap.size W W') : PS w0 gH gF ks W' mh mf Aw nw cw mw Ao no co mo :=
  ⟨h.bel.trans (hb.mono h.bel.size), h.hh.keep hb, h.hf.keep hb, h.ow.below hb (fun k hk => (h.ow.lt k hk).2), h.oo.below hb (fun k hk => (h.oo.lt k hk).2), h.wo, h.wH, h.wF, h.oH, h.oF, h.HF, h.bH, h.bF⟩
theorem PS.wrH (h : PS w0 gH gF ks W mh mf Aw nw cw mw Ao no co mo) (hh : Has W' gH 0 ks (mh ++ b)) (hc : Chg W W' gH 0 74) : PS w0 gH gF ks W' (mh ++ b) mf Aw nw cw mw Ao no co mo :=
  ⟨h.bel.trans (hc.below h.bel.size h.bH), hh, Has.far h.hf (hc.block gF h.hf.lt (Ne.symm h.HF)), h.ow.chg hc h.wH, h.oo.chg hc h.oH, h.wo, h.wH, h.wF, h.oH, h.oF, h.HF, h.bH, h.bF⟩
theorem PS.wrF (h : PS w0 gH gF ks W mh mf Aw nw cw mw Ao no co mo) (hf : Has W' gF 0 ks b) (hc : Chg W W' gF 0 74) : PS w0 gH gF ks W' mh b Aw nw cw mw Ao no co mo :=
  ⟨h.bel.trans (hc.below h.bel.size h.bF), Has.far h.hh (hc.block gH h.hh.lt h.HF), hf, h.ow.chg hc h.wF, h.oo.chg hc h.oF, h.wo, h.wH, h.wF, h.oH, h.oF, h.HF, h.bH, h.bF⟩
theorem PS.appW (h : PS w0 gH gF ks W mh mf Aw nw cw mw Ao no co mo) (ho : Own W' w0.heap.size 5 1 A' n' c' (u8s (mw ++ b))) (hat : AppAt W W' Aw A') : PS w0 gH gF ks W' mh mf A' n' c' (mw ++ b) Ao no co mo :=
  ⟨h.bel.trans (hat.below h.ow h.bel.size), Has.far h.hh (hat.grown.block gH h.hh.lt (fun e => h.wH e.symm)), Has.far h.hf (hat.grown.block gF h.hf.lt (fun e => h.wF e.symm)), ho, hat.other h.oo h.wo, hat.dis h.oo h.wo, hat.off h.hh.lt h.wH, hat.off h.hf.lt h.wF, h.oH, h.oF, h.HF, h.bH, h.bF⟩
theorem PS.appO (h : PS w0 gH gF ks W mh mf Aw nw cw mw Ao no co mo) (ho : Own W' w0.heap.size 5 1 A' n' c' (u8s (mo ++ b))) (hat : AppAt W W' Ao A') : PS w0 gH gF ks W' mh mf Aw nw cw mw A' n' c' (mo ++ b) :=
  ⟨h.bel.trans (hat.below h.oo h.bel.size), Has.far h.hh (hat.grown.block gH h.hh.lt (fun e => h.oH e.symm)), Has.far h.hf (hat.grown.block gF h.hf.lt (fun e => h.oF e.symm)), hat.other h.ow h.wo.symm, ho, (hat.dis h.ow h.wo.symm).symm, h.wH, h.wF, hat.off h.hh.lt h.oH, hat.off h.hf.lt h.oF, h.HF, h.bH, h.bF⟩
end
theorem HR.of_range {w : World} {g n : Nat} {st rs : List Nat} {bg : Bool} (h : w.rangeAt g 0 (hcells st rs n bg)) (hf : ∀ k, w.frozen? ⟨g, k, none⟩ = false) (h1 : st.length = 8) (h2 : rs.length = 64) : HR w g 0 st rs n bg := by
  have hu1 : (u32s st).length = 8 := by simp [u32s, h1]
  have hu2 : (u8s rs).length = 64 := by simp [u8s, h2]
  refine ⟨fun j v hv => ?_, fun j v hv => ?_, ?_, ?_, hf, h1, h2⟩
  · have hj := (List.getElem?_eq_some_iff.1 hv).1
    refine h j v ?_
    unfold hcells
    rw [List.getElem?_append_left (by omega)]
    exact hv
  · have hj := (List.getElem?_eq_some_iff.1 hv).1
    have := h (8 + j) v (by
      unfold hcells
      rw [List.getElem?_append_right (by omega), hu1, Nat.add_sub_cancel_left, List.getElem?_append_left (by omega)]
      exact hv)
    rwa [Nat.zero_add] at this ⊢
  · have := h 72 (.int .u64 (n : Int)) (by
      unfold hcells
      rw [List.getElem?_append_right (by omega), hu1, List.getElem?_append_right (by omega), hu2]
      rfl)
    exact this
  · have := h 73 (.bool bg) (by
      unfold hcells
      rw [List.getElem?_append_right (by omega), hu1, List.getElem?_append_right (by omega), hu2]
      rfl)
    exact this
/-- A Hasher copied over another. -/
theorem HR.copy {w : World} {gF n n' : Nat} {st rs st' rs' : List Nat} {bg bg' : Bool} (f : HR w gF 0 st' rs' n' bg') (h1 : st.length = 8) (h2 : rs.length = 64) :
    w.there gF 0 (hcells st rs n bg).length ∧ HR (w.setCells gF 0 (hcells st rs n bg)) gF 0 st rs n bg := by
  have hl : (hcells st rs n bg).length = 74 := hcells_length h1 h2
  have ht : w.there gF 0 (hcells st rs n bg).length := fun j hj => ⟨World.rangeAt.isSome f.range j (by rw [hcells_length f.l1 f.l2]; omega), f.fr _⟩
  exact ⟨ht, HR.of_range (World.rangeAt_setCells_same w gF 0 _ ht) (fun k => (World.frozen?_setCells gF _ 0 w _).trans (f.fr k)) h1 h2⟩

/-- The bytes of the first k lists. -/
def flatL (zs : List Pt) (k : Nat) : List Nat := ((zs.take k).map Pt.l).flatten
theorem flatL_zero (zs : List Pt) : flatL zs 0 = [] := rfl
theorem flatL_succ {zs : List Pt} {k : Nat} (h : k < zs.length) : flatL zs (k + 1) = flatL zs k ++ (zs[k]?.getD Pt.none_).l := by
  unfold flatL
  rw [List.take_add_one, List.getElem?_eq_getElem h]
  simp only [Option.toList_some, List.map_append, List.flatten_append, List.map_cons, List.map_nil, List.flatten_cons, List.flatten_nil, List.append_nil, Option.getD_some]
theorem flatL_mono (zs : List Pt) {i k : Nat} (h : i ≤ k) : (flatL zs i).length ≤ (flatL zs k).length := by
  have e : zs.take k = zs.take i ++ (zs.take k).drop i := by
    conv => lhs; rw [← List.take_append_drop i (zs.take k)]
    rw [List.take_take, Nat.min_eq_left h]
  unfold flatL
  rw [e, List.map_append, List.flatten_append, List.length_append]
  omega
theorem flatL_bytes {zs : List Pt} (h : ∀ i : Nat, ∀ b ∈ (zs[i]?.getD Pt.none_).l, b < 256) : ∀ k : Nat, ∀ b ∈ flatL zs k, b < 256
  | 0, b, hb => by cases hb
  | k + 1, b, hb => by
    by_cases hk : k < zs.length
    · rw [flatL_succ hk] at hb
      rcases List.mem_append.1 hb with hb | hb
      · exact flatL_bytes h k b hb
      · exact h k b hb
    · have e : flatL zs (k + 1) = flatL zs k := by
        unfold flatL
        rw [List.take_of_length_le (by omega), List.take_of_length_le (by omega)]
      rw [e] at hb
      exact flatL_bytes h k b hb
end Go.Proofs.YtfibfaablpoilaaDoor

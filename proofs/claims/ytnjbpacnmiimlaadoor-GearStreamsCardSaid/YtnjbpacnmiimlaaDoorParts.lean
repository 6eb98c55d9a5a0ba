/- A list of lists of bytes as an argument. No program is named here. -/
import Derived.Test.YtnjbpacnmiimlaaDoorArgs2
import Derived.Test.YtnjbpacnmiimlaaDoorOwn
namespace Go.Proofs.YtnjbpacnmiimlaaDoor
open Go.RowKit Go.ChangeShapes Go.WideShapes

/-- One list: its address, its bytes, its room. -/
structure Pt where
  A : Option Addr
  l : List Nat
  c : Nat
def Pt.v (p : Pt) : Value := .slice p.A p.l.length p.c
def Pt.none_ : Pt := ⟨none, [], 0⟩

theorem weightsAll_mem_ {H : Type} {P : Program} {e : TypeId} {d : DataW H} : ∀ {ds : List (DataW H)}, d ∈ ds → ∀ n ∈ d.weights P e, n ∈ DataW.weightsAll P e ds
  | x :: ds, h, n, hn => by
    simp only [DataW.weightsAll, List.mem_append]
    rcases List.mem_cons.1 h with rfl | h
    · exact Or.inl hn
    · exact Or.inr (weightsAll_mem_ h n hn)
/-- A list within a list keeps within the reach. -/
theorem reach_inner {H : Type} {P : Program} {ts : List TypeId} {ds Ds : List (DataW H)} {d d1 : DataW H} {j len : Nat} {t e q : TypeId} (h : (DataW.weightsEach P ts ds).all (· ≤ reachBytes) = true) (ht : ts[j]? = some t) (hd : ds[j]? = some d)
    (hE : Elems d Ds) (hu : P.underlying t = some (.slice e)) (hu2 : P.underlying e = some (.slice q)) (hx : d1 ∈ Ds) (hh : Held d1 len) (hs : P.bytesOf q = 1) : len ≤ 140737488351232 := by
  rcases hh with ⟨rfl, rfl⟩ | ⟨es, sp, rfl, rfl⟩
  · exact Nat.zero_le _
  · rcases hE with ⟨rfl, rfl⟩ | ⟨sp2, rfl⟩
    · cases hx
    · have h1 : (es.length + sp.length) * P.bytesOf q ≤ reachBytes := by
        refine of_decide_eq_true (List.all_eq_true.1 h _ (DataW.weights_mem_each ht hd _ ?_))
        simp only [DataW.weights, hu, List.mem_cons, List.mem_append]
        exact Or.inr (Or.inl (weightsAll_mem_ hx _ (by simp [DataW.weights, hu2])))
      rw [hs, Nat.mul_one] at h1
      have : reachBytes = 140737488351232 := rfl
      omega

theorem parts_open {H : Type} {enc : TypeId × Value → H} {P : Program} {W : World} {base b0 : Nat} {r : Reach} {spare : Nat → Bool} {held : Bool} {t e q : TypeId} {v : Value} {d : DataW H} {ps : List MemPlace} (ht : P.underlying t = some (.slice e)) (he : P.underlying e = some (.slice q)) (hq : P.underlying q = some (.int .u8))
    (hce : P.cellsOf e = 1) (hcq : P.cellsOf q = 1) (hbe : P.bytesOf e = 24) (hbq : P.bytesOf q = 1) (hv : Value.okWide P W r b0 t v) (h : DataW.Trod enc P W base spare held t v d ps) (hsz : (DataW.weightsEach P [t] [d]).all (· ≤ reachBytes) = true) :
    ∃ (A : Option Addr) (cap : Nat) (zs : List Pt), v = .slice A zs.length cap ∧ zs.length ≤ 5864062014635 ∧ Rd W W.heap.size A zs.length (fun j => (zs[j]?.getD Pt.none_).v) ∧
      ∀ i : Nat, Byt W W.heap.size (zs[i]?.getD Pt.none_).A (zs[i]?.getD Pt.none_).l ∧ (∀ b ∈ (zs[i]?.getD Pt.none_).l, b < 256) ∧ (zs[i]?.getD Pt.none_).l.length ≤ (zs[i]?.getD Pt.none_).c ∧ (zs[i]?.getD Pt.none_).c ≤ 9223372036854775807 ∧ (zs[i]?.getD Pt.none_).l.length ≤ 140737488351232 := by
  obtain ⟨a0, len0, cap0, rfl⟩ := okWide_slice ht hv
  obtain ⟨fuel, hf⟩ := h
  obtain ⟨A, cap, zs, Ds, hcs, _, _, r0, hDl, hE, hok⟩ := cell_slice_d (fun z : Pt => [z.v]) (ok := fun z d => Byt W W.heap.size z.A z.l ∧ (∀ b ∈ z.l, b < 256) ∧ Held d z.l.length ∧ z.l.length ≤ z.c ∧ z.c ≤ maxLen) ht hce (by omega)
    (fun n c y hy hc => by
      obtain ⟨c0, rfl⟩ : ∃ c0, c = [c0] := by
        match c, hc with
        | [c0], _ => exact ⟨c0, rfl⟩
      obtain ⟨A, q, l, rfl, hl, hm, r, hh, b⟩ := cell_bytes he hq hcq hy
      exact ⟨⟨A, l, q⟩, rfl, r, b, hh, hl, hm⟩) Pt.none_ hf
  simp [Value.cells] at hcs
  obtain ⟨rfl, rfl, rfl⟩ := hcs
  have hR := hE.held_.reach (j := 0) (size := 24) hsz rfl rfl ht hbe
  refine ⟨a0, cap0, zs, rfl, by omega, ?_, fun i => ?_⟩
  · rw [Nat.mul_one] at r0
    exact r0.congr fun j hj => by rw [Nat.div_one, Nat.mod_one]; rfl
  · rcases Nat.lt_or_ge i zs.length with h1 | h1
    · obtain ⟨o1, o2, o3, o4, o5⟩ := hok i h1
      refine ⟨o1, o2, o4, by unfold maxLen at o5; omega, ?_⟩
      have hi : Ds[i]? = some Ds[i] := List.getElem?_eq_getElem (by omega)
      rw [hi] at o3
      exact reach_inner (j := 0) hsz rfl rfl hE ht he (List.getElem_mem _) o3 hbq
    · rw [List.getElem?_eq_none h1]
      exact ⟨Rd.empty, by simp [Pt.none_], by simp [Pt.none_], by simp [Pt.none_], by simp [Pt.none_]⟩
end Go.Proofs.YtnjbpacnmiimlaaDoor

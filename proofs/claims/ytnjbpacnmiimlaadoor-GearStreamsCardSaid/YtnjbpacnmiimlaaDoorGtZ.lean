/- GearStreams: a step's turns. -/
import Derived.Test.YtnjbpacnmiimlaaDoorGtY
namespace Go.Proofs.YtnjbpacnmiimlaaDoor
open Go.RowKit

section
variable {w : World} {ru : Nat → Rul} {T J : Nat} {p : Nat → Value} {e ea e7 : Nat → Bool} {g h g7 : Nat → List Nat} {A : Nat → Option Addr} {c : Nat → Nat} {D : Nat → Nat → Prop} {ks : List Pt} {AK : Option Addr} {cK : Nat} {W w6 w7 w8 w9 : World}
/-- A block that came after W, but before Write, is in no Cutter's way after it. -/
theorem GsI.late (x : GsI w ru T J p e ea g h A c D ks AK cK W) {s : Nat} {D' : Nat → Prop} (hdn : ∀ k, k < w6.heap.size → ¬ D s k → ¬ D' k) (hs : s < 2) {k : Nat} (h1 : W.heap.size ≤ k) (h2 : k < w6.heap.size) : ∀ t, t < 2 → ¬ upd D s D' t k := fun t ht hd => by
  by_cases hts : t = s
  · subst hts
    rw [upd_same] at hd
    exact hdn k h2 ((x.far h1).1 t hs) hd
  · rw [upd_other _ _ hts] at hd
    exact (x.far h1).1 t ht hd
/-- What was lent is overwritten. -/
theorem GsI.mid (x : GsI w ru T J p e ea g h A c D ks AK cK W) {s : Nat} {D' : Nat → Prop} (hdn : ∀ k, k < w6.heap.size → ¬ D s k → ¬ D' k) (hs : s < 2) (x7 : GsI w ru T J p e7 ea g7 h A c (upd D s D') ks AK cK w7) {gl : Nat} (h1 : W.heap.size ≤ gl) (h2 : gl < w6.heap.size) (f8 : Fr (fun k => k = gl) w7 w8) :
    GsI w ru T J p e7 ea g7 h A c (upd D s D') ks AK cK w8 := by
  have hz := x.sz
  obtain ⟨y1, y2, y3, y4⟩ := x.far h1
  refine x7.fr f8 (fun k hk e => by omega) (fun t ht k hd e => ?_) (fun s hs h0 k hk e => y2 s hs h0 (by rw [hk, e])) (fun k hk e => y3 (by rw [hk, e])) (fun z hz k hk e => y4 z hz (by rw [hk, e]))
  subst e
  exact x.late hdn hs h1 h2 t ht hd
/-- Pieces that came later are kept. -/
theorem GsI.more (x : GsI w ru T J p e ea g h A c D ks AK cK W) {D7 : Nat → Nat → Prop} (x8 : GsI w ru T J p e7 ea g7 h A c D7 ks AK cK w8) {A9 : Option Addr} {c9 B J' : Nat} {ys : List Pt} (hB : W.heap.size ≤ B) (hat : AppAt w8 w9 AK A9) (o9 : Own w9 (w.heap.size + 6) 24 1 A9 (ks.length + ys.length) c9 (ks.map Pt.v ++ ys.map Pt.v))
    (hy : ∀ z ∈ ys, Own w8 B 5 1 z.A z.l.length z.c (u8s z.l)) (hyn : ∀ z ∈ ys, Out2 D7 z.A) (hyd : ys.Pairwise fun x y => Dis x.A y.A) (hyl : ∀ z ∈ ys, z.l.length ≤ 1048576) (hJ : ks.length + ys.length ≤ J') :
    GsI w ru T J' p e7 ea g7 h A c D7 (ks ++ ys) A9 c9 w9 := by
  have hz := x.sz
  exact x8.app hat o9 (fun z hz2 => (hy z hz2).base (by omega)) hyn hyd (fun z hz y hy2 => Dis.of_lt (fun k hk => ((x.po z hz).lt k hk).2) (fun k hk => Nat.le_trans hB ((hy y hy2).lt k hk).1)) hyl hJ
/-- What is held is laid anew. -/
theorem GsI.held (x : GsI w ru T J p e ea g h A c D ks AK cK W) {s : Nat} {D' : Nat → Prop} (hdn : ∀ k, k < w6.heap.size → ¬ D s k → ¬ D' k) (hs : s < 2) {ys : List Pt} {A9 A' : Option Addr} {c9 J9 : Nat}
    (x9 : GsI w ru T J9 p e7 ea g7 h A c (upd D s D') ys A9 c9 w9) {A8 : Option Addr} {w8 : World} (hat : AppAt w8 w9 A8 A9) (h8 : w6.heap.size ≤ w8.heap.size) (hA8 : ∀ k, blockOf A8 = some k → k < W.heap.size)
    {l : List Nat} {n c' T' : Nat} (hn : l.length = n) (hr : Byt w9 w9.heap.size A' l) (hb : ∀ k, blockOf A' = some k → W.heap.size ≤ k ∧ k < w6.heap.size) (hT : T ≤ T') (hl : l.length ≤ T' ∧ ∀ b ∈ l, b < 256) (h99 : w6.heap.size ≤ w9.heap.size) :
    GsI w ru T' J9 p e7 ea g7 (upd h s l) (upd A s A') (upd c s c') (upd D s D') ys A9 c9 (w9.setCell ⟨w.heap.size + 4, s, none⟩ (.slice A' n c')) :=
  x9.setH hs hn hr (fun h0 k hk => by
    obtain ⟨b1, b2⟩ := hb k hk
    have hz := x.sz
    exact ⟨by omega, by omega, x.late hdn hs b1 b2, hat.off (by omega) (fun e => by have := hA8 k e; omega)⟩) hT hl
theorem GsI.up (x : GsI w ru T J p e ea g h A c D ks AK cK W) {T' J' : Nat} (hT : T ≤ T') (hJ : J ≤ J') : GsI w ru T' J' p e ea g h A c D ks AK cK W :=
  ⟨x.bel, x.rl, x.pt, x.hd, x.en, x.sd, x.hr, x.hn, x.hk, fun s hs => ⟨Nat.le_trans (x.hl s hs).1 hT, (x.hl s hs).2⟩, x.dd, x.ke, x.kn, x.po, x.pn, x.di, x.pl, Nat.le_trans x.jl hJ⟩
theorem GsI.drewN (x : GsI w ru T J p e ea g h A c D ks AK cK W) (n : Nat) : GsI w ru T J p e ea g h A c D ks AK cK (W.drewN n) := x.keep (below_drewN (Below.refl _ _) n)
theorem GsI.apart_all (x : GsI w ru T J p e ea g h A c D ks AK cK W) (hm : ks.length ≤ 8796093022208) : Calls Tryd.prog 21 #[.slice AK ks.length cK] W fun e w' => e = .returned (.bool true) ∧ Below (w.heap.size + 6) W w' ∧ KeepsOthers W w' := by
  have hz : ∀ i, zAt ks i ∈ ks ∨ zAt ks i = Pt.none_ := fun i => by
    unfold zAt
    rcases Nat.lt_or_ge i ks.length with h | h
    · rw [List.getElem?_eq_getElem h]
      exact .inl (List.getElem_mem h)
    · rw [List.getElem?_eq_none h]
      exact .inr rfl
  have hO' : ∀ i, Own W (w.heap.size + 6) 5 1 (zAt ks i).A (zAt ks i).l.length (zAt ks i).c (u8s (zAt ks i).l) := fun i => by
    rcases hz i with e | e
    · exact x.po _ e
    · rw [e]
      exact Own.nil _ _ _ _
  have hDD : ∀ i j, i < j → Dis (zAt ks i).A (zAt ks j).A := fun i j hij => by
    rcases Nat.lt_or_ge j ks.length with hj | hj
    · have hi : i < ks.length := by omega
      have h1 := List.pairwise_iff_getElem.1 x.di i j hi hj hij
      have e1 : zAt ks i = ks[i] := by unfold zAt; rw [List.getElem?_eq_getElem hi]; rfl
      have e2 : zAt ks j = ks[j] := by unfold zAt; rw [List.getElem?_eq_getElem hj]; rfl
      rw [e1, e2]
      exact h1
    · have e2 : zAt ks j = Pt.none_ := by unfold zAt; rw [List.getElem?_eq_none hj]; rfl
      rw [e2]
      intro k _ h2
      cases h2
  refine apart_any ks AK ks.length cK (w.heap.size + 6) W rfl hm ?_ hO' (fun i => ?_) (fun i j hij => ?_) (fun i => x.ke.unlike (hO' i) (by decide)) x.sz
  · have hr := x.ke.rd
    rw [Nat.mul_one] at hr
    exact hr.congr fun j hj => by
      have e : zAt ks j = ks[j] := by unfold zAt; rw [List.getElem?_eq_getElem hj]; rfl
      rw [e]
      simp [hj]
  · rcases hz i with e | e
    · exact x.pl _ e
    · rw [e]
      exact Nat.zero_le _
  · rcases Nat.lt_trichotomy i j with h1 | h1 | h1
    · exact hDD i j h1
    · exact absurd h1 hij
    · exact (hDD j i h1).symm
end
theorem grange_get {xs : List Value} {n : Nat} (h : xs.length = n) : (List.range (n * 1)).map (fun j => xs[j]?.getD undef) = xs := by
  subst h
  apply List.ext_getElem
  · simp
  · intro j h1 h2
    simp [h2]
/-- The bytes of a piece are no more than what was cut. -/
theorem whole_bound (a m x : Int) (l : List Nat) : (Gear.whole a m x l).1.length ≤ l.length ∧ (∀ y ∈ (Gear.whole a m x l).1, y.length ≤ l.length) ∧ (Gear.whole a m x l).2.length ≤ l.length := by
  unfold Gear.whole
  split
  · have h1 := gputs_len (a := a) (m := m) (x := x) l ([], [])
    have h2 := Gear.puts_flat (a := a) (m := m) (x := x) l ([], [])
    simp only [List.length_nil, Nat.zero_add] at h1
    refine ⟨h1.1, fun y hy => ?_, h1.2⟩
    have h3 := congrArg List.length h2
    simp only [List.length_append, List.flatten_nil, List.nil_append, List.length_flatten] at h3
    have h4 : y.length ≤ ((Gear.puts a m x ([], []) l).1.map List.length).sum := le_sum_ _ hy
    omega
  · exact ⟨Nat.zero_le _, fun y hy => by simp at hy, Nat.le_refl _⟩
where
  le_sum_ {y : List Nat} : ∀ (L : List (List Nat)), y ∈ L → y.length ≤ (L.map List.length).sum
    | [], h => by simp at h
    | a :: t, h => by
      rw [List.map_cons, List.sum_cons]
      rcases List.mem_cons.1 h with rfl | h
      · omega
      · have := le_sum_ t h
        omega
end Go.Proofs.YtnjbpacnmiimlaaDoor

/- Rows of the call's own that are written over and grown beside one another. No program is named here. -/
import Derived.Test.YtnjbpacnmiimlaaDoorGearL
namespace Go.Proofs.YtnjbpacnmiimlaaDoor
open Go.RowKit

theorem AppAt.far' {w w' : World} {A A' A3 : Option Addr} (h : AppAt w w' A A') {m : Nat} {g : Nat → Value} {B3 : Nat} (hr : Rd w B3 A3 m g) (hd : Dis A A3) : Rd w' w'.heap.size A3 m g := by
  intro hm
  obtain ⟨b, off, rfl, _, hc⟩ := hr hm
  have hbs : b < w.heap.size := World.block_lt_of_cell? _ _ (hc 0 hm)
  exact ⟨b, off, rfl, Nat.lt_of_lt_of_le hbs h.grown.size, fun j hj => (World.cell?_of_block (h.grown.block b hbs (fun e => hd b e.symm rfl))).trans (hc j hj)⟩
theorem AppAt.pre' {w w' : World} {A A' A3 : Option Addr} {B e size N c' : Nat} {xs ys : List Value} (h : AppAt w w' A A') (ho' : Own w' B e size A' N c' (xs ++ ys)) (h3 : ∀ ad, A3 = some ad → ∃ b, ad = ⟨b, 0, none⟩) {m : Nat} {g : Nat → Value} {B3 : Nat} (hr : Rd w B3 A3 m g)
    (hp : ∀ j, j < m → xs[j]? = some (g j)) : Rd w' w'.heap.size A3 m g := by
  cases A3 with
  | none =>
    intro hm
    obtain ⟨_, _, e, _⟩ := hr hm
    cases e
  | some ad =>
    obtain ⟨b, rfl⟩ := h3 ad rfl
    exact h.prefix_ ho' hr (fun _ => hp)
theorem AppAt.dis' {w w' : World} {A A' A3 : Option Addr} (h : AppAt w w' A A') (hd : Dis A A3) (hlt : ∀ k, blockOf A3 = some k → k < w.heap.size) : Dis A' A3 := by
  intro k h1 h2
  rcases h with ⟨h3, _⟩ | ⟨k', h3, h4, _⟩
  · exact hd k (h3 ▸ h1) h2
  · rw [h1] at h3
    cases h3
    have := hlt k h2
    omega
theorem Own.at0 {w : World} {B e size n c : Nat} {A : Option Addr} {xs : List Value} (h : Own w B e size A n c xs) : ∀ ad, A = some ad → ∃ b, ad = ⟨b, 0, none⟩ := by
  intro ad hA
  subst hA
  rcases h.2 with ⟨hv, _⟩ | ⟨g, cap, cur, hv, _⟩
  · cases hv
  · injection hv with hA
    injection hA with hA
    exact ⟨g, hA⟩

def reps (m : Nat) (v : Int) : List Value := List.replicate m (.int .i64 v)
theorem reps_get {m j : Nat} {v : Int} (h : j < m) : (reps m v)[j]? = some (.int .i64 v) := by simp [reps, h]
theorem reps_one (m : Nat) (v : Int) : reps m v ++ #[Value.int .i64 v].toList = reps (m + 1) v := by simp [reps, List.replicate_succ']
theorem reps_tail (l : List Value) (m : Nat) (v : Int) : (l ++ reps m v) ++ #[Value.int .i64 v].toList = l ++ reps (m + 1) v := by rw [List.append_assoc, reps_one]
theorem Own.reps {w : World} {B e n c : Nat} {A : Option Addr} {v : Int} (h : Own w B e 1 A n c (reps n v)) : Is w w.heap.size A n (fun _ => v) := by
  have := h.rd
  rw [Nat.mul_one] at this
  exact this.congr fun j hj => by rw [reps_get hj]; rfl
/-- A row whose first k cells are written over. -/
def over (xs : List Value) (k : Nat) (v : Int) : List Value := reps k v ++ xs.drop k
theorem over_zero (xs : List Value) (v : Int) : over xs 0 v = xs := by simp [over, Go.Proofs.YtnjbpacnmiimlaaDoor.reps]
theorem over_all {xs : List Value} {n : Nat} (h : xs.length = n) (v : Int) : over xs n v = reps n v := by
  subst h
  simp [over]
theorem over_set {xs : List Value} {k : Nat} (h : k < xs.length) (v : Int) : (over xs k v).set k (.int .i64 v) = over xs (k + 1) v := by
  have h1 : xs.drop k = xs[k] :: xs.drop (k + 1) := List.drop_eq_getElem_cons h
  have h2 : (Go.Proofs.YtnjbpacnmiimlaaDoor.reps k v).length = k := by simp [Go.Proofs.YtnjbpacnmiimlaaDoor.reps]
  unfold over
  rw [List.set_append_right _ _ (by omega), h2, Nat.sub_self, h1, List.set_cons_zero, ← reps_one, List.append_assoc]
  rfl

/-- Five rows: the document's lengths, the list lent, three answers. -/
structure Five (w : World) (B N n0 : Nat) (tI tB : TypeId) (ls : List Nat) (lb : List Nat) (AW Aa Ab Ac : Option Addr) (gl cW cL ca cb cc : Nat) (xa xb : List Value) : Prop where
  oW : Own w B tI 1 AW N cW (i64s ls)
  oL : Own w B tB 1 (some ⟨gl, 0, none⟩) n0 cL (u8s lb)
  oa : Own w B tI 1 Aa N ca xa
  ob : Own w B tI 1 Ab N cb xb
  oc : Own w B tI 1 Ac N cc (i64s ls)
  aW : Dis Aa AW
  bW : Dis Ab AW
  cW : Dis Ac AW
  aL : Dis Aa (some ⟨gl, 0, none⟩)
  bL : Dis Ab (some ⟨gl, 0, none⟩)
  cL : Dis Ac (some ⟨gl, 0, none⟩)
  ab : Dis Aa Ab
  ac : Dis Aa Ac
  bc : Dis Ab Ac
section
variable {w w' : World} {B N n0 : Nat} {tI tB : TypeId} {ls : List Nat} {lb : List Nat} {AW Aa Ab Ac : Option Addr} {gl cW cL ca cb cc : Nat} {xa xb : List Value}
theorem Own.far {e size n c : Nat} {A : Option Addr} {xs : List Value} (h : Own w B e size A n c xs) {g j : Nat} {v : Value} (hg : w.grownBy (w.setCell ⟨g, j, none⟩ v) (some g)) (hd : blockOf A ≠ some g) : Own (w.setCell ⟨g, j, none⟩ v) B e size A n c xs :=
  h.kept hg (fun k hk he => by cases he; exact hd hk)
theorem Five.setA (h : Five w B N n0 tI tB ls lb AW Aa Ab Ac gl cW cL ca cb cc xa xb) {g : Nat} (hA : Aa = some ⟨g, 0, none⟩) (j : Nat) (u : Value) :
    Five (w.setCell ⟨g, j, none⟩ u) B N n0 tI tB ls lb AW Aa Ab Ac gl cW cL ca cb cc (xa.set j u) xb := by
  subst hA
  have hg := h.oa.set_grown j u
  exact ⟨h.oW.far hg (h.aW g rfl), h.oL.far hg (h.aL g rfl), h.oa.set j u, h.ob.far hg (h.ab g rfl), h.oc.far hg (h.ac g rfl), h.aW, h.bW, h.cW, h.aL, h.bL, h.cL, h.ab, h.ac, h.bc⟩
theorem Five.setB (h : Five w B N n0 tI tB ls lb AW Aa Ab Ac gl cW cL ca cb cc xa xb) {g : Nat} (hA : Ab = some ⟨g, 0, none⟩) (j : Nat) (u : Value) :
    Five (w.setCell ⟨g, j, none⟩ u) B N n0 tI tB ls lb AW Aa Ab Ac gl cW cL ca cb cc xa (xb.set j u) := by
  subst hA
  have hg := h.ob.set_grown j u
  exact ⟨h.oW.far hg (h.bW g rfl), h.oL.far hg (h.bL g rfl), h.oa.far hg (h.ab.symm g rfl), h.ob.set j u, h.oc.far hg (h.bc g rfl), h.aW, h.bW, h.cW, h.aL, h.bL, h.cL, h.ab, h.ac, h.bc⟩
theorem Five.drewN (h : Five w B N n0 tI tB ls lb AW Aa Ab Ac gl cW cL ca cb cc xa xb) (m : Nat) : Five (w.drewN m) B N n0 tI tB ls lb AW Aa Ab Ac gl cW cL ca cb cc xa xb :=
  ⟨h.oW.drewN m, h.oL.drewN m, h.oa.drewN m, h.ob.drewN m, h.oc.drewN m, h.aW, h.bW, h.cW, h.aL, h.bL, h.cL, h.ab, h.ac, h.bc⟩
end
theorem Own.setBelow {w : World} {B e size m c g : Nat} {xs : List Value} (h : Own w B e size (some ⟨g, 0, none⟩) m c xs) (hB : B ≤ w.heap.size) (j : Nat) (u : Value) : Below B w (w.setCell ⟨g, j, none⟩ u) :=
  grown_below (h.set_grown j u) hB (by intro k hk; cases hk; exact (h.lt g rfl).1)

/-- While the three answers are grown. -/
structure Grows (w : World) (B K N n0 : Nat) (tI tB : TypeId) (ls : List Nat) (lb : List Nat) (AW Aa Ab Ac : Option Addr) (gl cL : Nat) (k1 k2 k3 : Nat) (Ap Aq As : Option Addr) (cp cq cs : Nat) : Prop where
  hK : K ≤ w.heap.size
  lW : ∀ k, blockOf AW = some k → k < K
  la : ∀ k, blockOf Aa = some k → k < K
  lb_ : ∀ k, blockOf Ab = some k → k < K
  lc : ∀ k, blockOf Ac = some k → k < K
  lL : gl < K
  za : ∀ ad, Aa = some ad → ∃ b, ad = ⟨b, 0, none⟩
  zb : ∀ ad, Ab = some ad → ∃ b, ad = ⟨b, 0, none⟩
  zc : ∀ ad, Ac = some ad → ∃ b, ad = ⟨b, 0, none⟩
  op : Own w B tI 1 Ap (N + k1) cp (reps (N + k1) (-1))
  oq : Own w B tI 1 Aq (N + k2) cq (reps (N + k2) (-2))
  os : Own w B tI 1 As (N + k3) cs (i64s ls ++ reps k3 (-3))
  oL : Own w B tB 1 (some ⟨gl, 0, none⟩) n0 cL (u8s lb)
  rW : Is w w.heap.size AW N (fun j => ((ls[j]?.getD 0 : Nat) : Int))
  ra : Is w w.heap.size Aa N (fun _ => -1)
  rb : Is w w.heap.size Ab N (fun _ => -2)
  rc : Is w w.heap.size Ac N (fun j => ((ls[j]?.getD 0 : Nat) : Int))
  pq : Dis Ap Aq
  ps : Dis Ap As
  qs : Dis Aq As
  pW : Dis Ap AW
  qW : Dis Aq AW
  sW : Dis As AW
  pL : Dis Ap (some ⟨gl, 0, none⟩)
  qL : Dis Aq (some ⟨gl, 0, none⟩)
  sL : Dis As (some ⟨gl, 0, none⟩)
  pb : Dis Ap Ab
  pc : Dis Ap Ac
  qa : Dis Aq Aa
  qc : Dis Aq Ac
  sa : Dis As Aa
  sb : Dis As Ab

section
variable {w w' : World} {B K N n0 : Nat} {tI tB : TypeId} {ls : List Nat} {lb : List Nat} {AW Aa Ab Ac : Option Addr} {gl cL : Nat} {k1 k2 k3 : Nat} {Ap Aq As A' : Option Addr} {cp cq cs c' : Nat}
theorem Grows.stepP (h : Grows w B K N n0 tI tB ls lb AW Aa Ab Ac gl cL k1 k2 k3 Ap Aq As cp cq cs) (hat : AppAt w w' Ap A') (ho : Own w' B tI 1 A' (N + (k1 + 1)) c' (reps (N + k1) (-1) ++ #[Value.int .i64 (-1)].toList)) :
    Grows w' B K N n0 tI tB ls lb AW Aa Ab Ac gl cL (k1 + 1) k2 k3 A' Aq As c' cq cs where
  hK := Nat.le_trans h.hK hat.grown.size
  lW := h.lW
  la := h.la
  lb_ := h.lb_
  lc := h.lc
  lL := h.lL
  za := h.za
  zb := h.zb
  zc := h.zc
  op := by rw [reps_one] at ho; exact ho
  oq := hat.other h.oq h.pq
  os := hat.other h.os h.ps
  oL := hat.other h.oL h.pL
  rW := hat.far' h.rW h.pW
  ra := hat.pre' ho h.za h.ra (fun j hj => reps_get (by omega))
  rb := hat.far' h.rb h.pb
  rc := hat.far' h.rc h.pc
  pq := hat.dis h.oq h.pq
  ps := hat.dis h.os h.ps
  qs := h.qs
  pW := hat.dis' h.pW (fun k hk => Nat.lt_of_lt_of_le (h.lW k hk) h.hK)
  qW := h.qW
  sW := h.sW
  pL := hat.dis h.oL h.pL
  qL := h.qL
  sL := h.sL
  pb := hat.dis' h.pb (fun k hk => Nat.lt_of_lt_of_le (h.lb_ k hk) h.hK)
  pc := hat.dis' h.pc (fun k hk => Nat.lt_of_lt_of_le (h.lc k hk) h.hK)
  qa := h.qa
  qc := h.qc
  sa := h.sa
  sb := h.sb
theorem Grows.stepQ (h : Grows w B K N n0 tI tB ls lb AW Aa Ab Ac gl cL k1 k2 k3 Ap Aq As cp cq cs) (hat : AppAt w w' Aq A') (ho : Own w' B tI 1 A' (N + (k2 + 1)) c' (reps (N + k2) (-2) ++ #[Value.int .i64 (-2)].toList)) :
    Grows w' B K N n0 tI tB ls lb AW Aa Ab Ac gl cL k1 (k2 + 1) k3 Ap A' As cp c' cs where
  hK := Nat.le_trans h.hK hat.grown.size
  lW := h.lW
  la := h.la
  lb_ := h.lb_
  lc := h.lc
  lL := h.lL
  za := h.za
  zb := h.zb
  zc := h.zc
  oq := by rw [reps_one] at ho; exact ho
  op := hat.other h.op h.pq.symm
  os := hat.other h.os h.qs
  oL := hat.other h.oL h.qL
  rW := hat.far' h.rW h.qW
  rb := hat.pre' ho h.zb h.rb (fun j hj => reps_get (by omega))
  ra := hat.far' h.ra h.qa
  rc := hat.far' h.rc h.qc
  pq := (hat.dis h.op h.pq.symm).symm
  ps := h.ps
  qs := hat.dis h.os h.qs
  qW := hat.dis' h.qW (fun k hk => Nat.lt_of_lt_of_le (h.lW k hk) h.hK)
  pW := h.pW
  sW := h.sW
  qL := hat.dis h.oL h.qL
  pL := h.pL
  sL := h.sL
  qa := hat.dis' h.qa (fun k hk => Nat.lt_of_lt_of_le (h.la k hk) h.hK)
  qc := hat.dis' h.qc (fun k hk => Nat.lt_of_lt_of_le (h.lc k hk) h.hK)
  pb := h.pb
  pc := h.pc
  sa := h.sa
  sb := h.sb
theorem Grows.stepS (h : Grows w B K N n0 tI tB ls lb AW Aa Ab Ac gl cL k1 k2 k3 Ap Aq As cp cq cs) (hN : ls.length = N) (hat : AppAt w w' As A') (ho : Own w' B tI 1 A' (N + (k3 + 1)) c' ((i64s ls ++ reps k3 (-3)) ++ #[Value.int .i64 (-3)].toList)) :
    Grows w' B K N n0 tI tB ls lb AW Aa Ab Ac gl cL k1 k2 (k3 + 1) Ap Aq A' cp cq c' where
  hK := Nat.le_trans h.hK hat.grown.size
  lW := h.lW
  la := h.la
  lb_ := h.lb_
  lc := h.lc
  lL := h.lL
  za := h.za
  zb := h.zb
  zc := h.zc
  os := by rw [reps_tail] at ho; exact ho
  op := hat.other h.op h.ps.symm
  oq := hat.other h.oq h.qs.symm
  oL := hat.other h.oL h.sL
  rW := hat.far' h.rW h.sW
  rc := hat.pre' ho h.zc h.rc (fun j hj => by rw [List.getElem?_append_left (by rw [i64s_length]; omega), i64s_get _ _ (by omega)])
  ra := hat.far' h.ra h.sa
  rb := hat.far' h.rb h.sb
  ps := (hat.dis h.op h.ps.symm).symm
  pq := h.pq
  qs := (hat.dis h.oq h.qs.symm).symm
  sW := hat.dis' h.sW (fun k hk => Nat.lt_of_lt_of_le (h.lW k hk) h.hK)
  pW := h.pW
  qW := h.qW
  sL := hat.dis h.oL h.sL
  pL := h.pL
  qL := h.qL
  sa := hat.dis' h.sa (fun k hk => Nat.lt_of_lt_of_le (h.la k hk) h.hK)
  sb := hat.dis' h.sb (fun k hk => Nat.lt_of_lt_of_le (h.lb_ k hk) h.hK)
  pb := h.pb
  pc := h.pc
  qa := h.qa
  qc := h.qc
end
theorem Grows.of {w : World} {B N n0 : Nat} {tI tB : TypeId} {ls : List Nat} {lb : List Nat} {AW Aa Ab Ac : Option Addr} {gl cW cL ca cb cc : Nat} (h : Five w B N n0 tI tB ls lb AW Aa Ab Ac gl cW cL ca cb cc (reps N (-1)) (reps N (-2))) (hN : ls.length = N) :
    Grows w B w.heap.size N n0 tI tB ls lb AW Aa Ab Ac gl cL 0 0 0 Aa Ab Ac ca cb cc where
  hK := Nat.le_refl _
  lW := fun k hk => (h.oW.lt k hk).2
  la := fun k hk => (h.oa.lt k hk).2
  lb_ := fun k hk => (h.ob.lt k hk).2
  lc := fun k hk => (h.oc.lt k hk).2
  lL := (h.oL.lt gl rfl).2
  za := h.oa.at0
  zb := h.ob.at0
  zc := h.oc.at0
  op := h.oa
  oq := h.ob
  os := by simpa [reps] using h.oc
  oL := h.oL
  rW := h.oW.is hN
  ra := h.oa.reps
  rb := h.ob.reps
  rc := h.oc.is hN
  pq := h.ab
  ps := h.ac
  qs := h.bc
  pW := h.aW
  qW := h.bW
  sW := h.cW
  pL := h.aL
  qL := h.bL
  sL := h.cL
  pb := h.ab
  pc := h.ac
  qa := h.ab.symm
  qc := h.bc
  sa := h.ac.symm
  sb := h.bc.symm
end Go.Proofs.YtnjbpacnmiimlaaDoor

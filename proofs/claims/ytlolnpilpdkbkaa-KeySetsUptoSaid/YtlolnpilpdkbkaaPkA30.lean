/- KeySets: the state of the script: three places, what is kept. KeySets: three, put. (Printed by tools/gensp.py.) KeySets: a step in its box. (Printed by tools/genak.py.) -/
import Derived.Test.YtlolnpilpdkbkaaPkA24
import Derived.Test.YtlolnpilpdkbkaaPkA27
import Derived.Test.YtlolnpilpdkbkaaPkA28
import Derived.Test.YtlolnpilpdkbkaaPkA29
import Derived.BigRegion
import Derived.BigQuiet
import Derived.Great.Walk

namespace Go.Proofs.Ytlolnpilpdkbkaa
open Go.RowKit Go.Maps
set_option linter.unusedSimpArgs false
set_option linter.unusedVariables false

/-- A rising list within a list is no longer. -/
theorem rise_len : ∀ {ks T : List (List Nat)}, Rise32 ks → (∀ x ∈ ks, x ∈ T) → ks.length ≤ T.length
  | [], T, _, _ => by simp
  | x :: r, T, h, hT => by
    have hx := hT x (by simp)
    have h2 := rise_len (T := T.erase x) h.tail fun y hy => (List.mem_erase_of_ne (fun e : y = x => h.not_mem (e ▸ hy))).2 (hT y (by simp [hy]))
    rw [List.length_erase_of_mem hx] at h2
    have : 0 < T.length := List.length_pos_of_mem hx
    simp only [List.length_cons]
    omega
/-- One of the three places: the program's set, the document's. -/
structure Pl where
  o : Option (Nat × Nat)
  kp : List (List Nat)
  q : Nat
  A : Option Addr
  c : Nat
  kr : List (List Nat)
structure PlAt (w0 : World) (T : List (List Nat)) (p : Pl) (W : World) : Prop where
  set : SetO W p.o p.kp
  ref : RSet W p.q p.A p.c p.kr
  rise : Rise32 p.kr
  lo : w0.heap.size ≤ p.q
  los : ∀ r, p.o = some r → w0.heap.size ≤ r.1 ∧ w0.heap.size ≤ r.2
  inP : ∀ x ∈ p.kp, x ∈ T
  inR : ∀ x ∈ p.kr, x ∈ T
/-- What is kept: an iterator, what it is to tell. -/
structure Kp where
  g : Nat
  AI : Option Addr
  cI : Nat
  A : Option Addr
  c : Nat
  ks : List (List Nat)
structure KpAt (T : List (List Nat)) (e : Kp) (W : World) : Prop where
  all : AllAt W e.g e.AI e.cI e.ks
  own : Own W 0 25 32 e.A e.ks.length e.c (rowsK e.ks)
  rise : Rise32 e.ks
  inT : ∀ x ∈ e.ks, x ∈ T
def kpV (e : Kp) : List Value := [.func (.func 53) #[] #[.pointer (some ⟨e.g, 0, none⟩)], .slice e.A e.ks.length e.c]
def kpL (K : List Kp) : List Value := K.flatMap kpV
def rq (p : Pl) : Value := .pointer (some ⟨p.q, 0, none⟩)
def nn (p : Pl) : Value := .bool p.o.isNone
def wcells (P : Nat → Pl) (Ak : Option Addr) (n ck : Nat) : List Value := [pv (P 0).o, pv (P 1).o, pv (P 2).o, rq (P 0), rq (P 1), rq (P 2), nn (P 0), nn (P 1), nn (P 2), .slice Ak n ck]
structure WS (w0 : World) (T : List (List Nat)) (gw : Nat) (P : Nat → Pl) (Ak : Option Addr) (ck : Nat) (K : List Kp) (W : World) : Prop where
  bel : Below w0.heap.size w0 W
  lo : w0.heap.size ≤ gw
  wld : W.heap[gw]? = some (.cells (wcells P Ak K.length ck).toArray 55 (0, 0))
  row : Own W w0.heap.size 63 2 Ak K.length ck (kpL K)
  pl : ∀ i, i < 3 → PlAt w0 T (P i) W
  sep : ∀ i j, i < 3 → j < 3 → i ≠ j → (P i).q ≠ (P j).q ∧ ∀ r s, (P i).o = some r → (P j).o = some s → r.1 ≠ s.1 ∧ r.2 ≠ s.2
  kp : ∀ e ∈ K, KpAt T e W
section
variable {w0 W W' : World} {T : List (List Nat)} {gw ck : Nat} {P : Nat → Pl} {Ak : Option Addr} {K : List Kp} {p : Pl} {e : Kp}
theorem SetO.same {o : Option (Nat × Nat)} {ks : List (List Nat)} (h : SetO W o ks) (hs : ∀ r, o = some r → W'.heap[r.1]? = W.heap[r.1]? ∧ W'.heap[r.2]? = W.heap[r.2]?) : SetO W' o ks := by
  cases o with
  | none => exact h
  | some r =>
    obtain ⟨n, h⟩ := h
    exact ⟨n, h.keep (hs r rfl).1 (hs r rfl).2⟩
theorem PlAt.same (h : PlAt w0 T p W) (hq : W'.heap[p.q]? = W.heap[p.q]?) (hA : ∀ k, blockOf p.A = some k → W'.heap[k]? = W.heap[k]?) (hs : ∀ r, p.o = some r → W'.heap[r.1]? = W.heap[r.1]? ∧ W'.heap[r.2]? = W.heap[r.2]?) : PlAt w0 T p W' :=
  ⟨h.set.same hs, h.ref.keep hq hA, h.rise, h.lo, h.los, h.inP, h.inR⟩
theorem PlAt.below (h : PlAt w0 T p W) (hb : Below W.heap.size W W') : PlAt w0 T p W' :=
  h.same (hb.block _ h.ref.lts.1) (fun k hk => hb.block _ (h.ref.lts.2 k hk)) (fun r hr => ⟨hb.block _ (h.set.lts hr).1, hb.block _ (h.set.lts hr).2⟩)
theorem KpAt.same (h : KpAt T e W) (hg : W'.heap[e.g]? = W.heap[e.g]?) (hA : ∀ k, blockOf e.AI = some k ∨ blockOf e.A = some k → W'.heap[k]? = W.heap[k]?) : KpAt T e W' :=
  ⟨h.all.keep hg fun k hk => hA k (.inl hk), own_same h.own fun k hk => hA k (.inr hk), h.rise, h.inT⟩
theorem KpAt.below (h : KpAt T e W) (hb : Below W.heap.size W W') : KpAt T e W' :=
  h.same (hb.block _ h.all.lts.1) (fun k hk => hb.block _ (by rcases hk with hk | hk; exact h.all.lts.2 k hk; exact (h.own.lt k hk).2))
theorem WS.keep (h : WS w0 T gw P Ak ck K W) (hb : Below W.heap.size W W') : WS w0 T gw P Ak ck K W' :=
  ⟨h.bel.trans (hb.mono h.bel.size), h.lo, (hb.block _ (Array.getElem?_eq_some_iff.1 h.wld).1).trans h.wld, h.row.below hb (fun k hk => (h.row.lt k hk).2), fun i hi => (h.pl i hi).below hb, h.sep, fun e he => (h.kp e he).below hb⟩
/-- The row's block of an own list bears its elements' type. -/
theorem own_tag {B : Nat} {t : TypeId} {size n c : Nat} {A : Option Addr} {xs : List Value} (h : Own W B t size A n c xs) {k : Nat} (hk : blockOf A = some k) : ∃ cs, W.heap[k]? = some (.cells cs t (0, 0)) := by
  rcases h.2 with ⟨h0, _⟩ | ⟨g, cap, cur, hv, _, hg, _⟩
  · injection h0 with hA
    rw [hA] at hk
    cases hk
  · injection hv with hA
    rw [hA] at hk
    cases hk
    exact ⟨_, hg⟩
/-- Only block X has changed, and X is a document's set or a map. -/
structure Only (X : Nat) (W W' : World) : Prop where
  chg : ∀ k, k < W.heap.size → k ≠ X → W'.heap[k]? = W.heap[k]?
  far : ∀ (b : Nat) cs t fr, W.heap[b]? = some (.cells cs t fr) → t ≠ 67 → b ≠ X
theorem Only.at_ {X : Nat} (h : Only X W W') {b : Nat} {cs : Array Value} {t : TypeId} {fr : Nat × Nat} (hb : W.heap[b]? = some (.cells cs t fr)) (ht : t ≠ 67) : W'.heap[b]? = W.heap[b]? :=
  h.chg b (Array.getElem?_eq_some_iff.1 hb).1 (h.far b cs t fr hb ht)
theorem Only.set {X : Nat} (h : Only X W W') {o : Option (Nat × Nat)} {ks : List (List Nat)} (hs : SetO W o ks) (hm : ∀ r, o = some r → r.2 ≠ X) : ∀ r, o = some r → W'.heap[r.1]? = W.heap[r.1]? ∧ W'.heap[r.2]? = W.heap[r.2]? := fun r hr => by
  have hl := hs.lts hr
  subst hr
  obtain ⟨n, D, ⟨h1, h2⟩, _⟩ := hs
  exact ⟨h.at_ h1 (by decide), h.chg _ hl.2 (hm r rfl)⟩
theorem Only.pl {X : Nat} (h : Only X W W') (hp : PlAt w0 T p W) (hq : p.q ≠ X) (hm : ∀ r, p.o = some r → r.2 ≠ X) : PlAt w0 T p W' :=
  hp.same (h.chg _ hp.ref.lts.1 hq) (fun k hk => by obtain ⟨cs, fr, ht⟩ := hp.ref.tag hk; exact h.at_ ht (by decide)) (h.set hp.set hm)
theorem Only.kp {X : Nat} (h : Only X W W') (he : KpAt T e W) : KpAt T e W' :=
  he.same (h.at_ he.all.1 (by decide)) (fun k hk => by
    rcases hk with hk | hk
    · obtain ⟨cs, ht⟩ := own_tag he.all.2 hk; exact h.at_ ht (by decide)
    · obtain ⟨cs, ht⟩ := own_tag he.own hk; exact h.at_ ht (by decide))
theorem Only.own {X B n c : Nat} {A : Option Addr} {xs : List Value} (h : Only X W W') (ho : Own W B 63 2 A n c xs) : Own W' B 63 2 A n c xs :=
  own_same ho fun k hk => by obtain ⟨cs, ht⟩ := own_tag ho hk; exact h.at_ ht (by decide)
def upP (P : Nat → Pl) (i : Nat) (p : Pl) : Nat → Pl := fun j => if j = i then p else P j
theorem upP_same (P : Nat → Pl) (i : Nat) (p : Pl) : upP P i p i = p := by simp [upP]
theorem upP_other (P : Nat → Pl) {i j : Nat} (p : Pl) (h : j ≠ i) : upP P i p j = P j := by simp [upP, h]
theorem wcells_up (P : Nat → Pl) (i : Nat) (p : Pl) (n : Nat) (h1 : p.o = (P i).o) (h2 : p.q = (P i).q) : wcells (upP P i p) Ak n ck = wcells P Ak n ck := by
  have a : ∀ j, (upP P i p j).o = (P j).o ∧ (upP P i p j).q = (P j).q := fun j => by
    by_cases e : j = i
    · subst e; rw [upP_same]; exact ⟨h1, h2⟩
    · rw [upP_other P p e]; exact ⟨rfl, rfl⟩
  unfold wcells rq nn
  simp only [(a _).1, (a _).2]
/-- A place's lists have changed, in the same blocks. -/
theorem WS.turn (h : WS w0 T gw P Ak ck K W) {i X : Nat} (hi : i < 3) (ho : Only X W W') (hX : X = (P i).q ∨ ∃ r, (P i).o = some r ∧ X = r.2) (hb : Below w0.heap.size w0 W') (p : Pl) (h1 : p.o = (P i).o) (h2 : p.q = (P i).q) (hp : PlAt w0 T p W') : WS w0 T gw (upP P i p) Ak ck K W' := by
  have hoth : ∀ j, j < 3 → j ≠ i → (P j).q ≠ X ∧ ∀ r, (P j).o = some r → r.2 ≠ X := fun j hj hji => by
    have hs := h.sep j i hj hi hji
    rcases hX with rfl | ⟨r, hr, rfl⟩
    · refine ⟨hs.1, fun r hr e => ?_⟩
      have h3 := (h.pl j hj).set
      rw [hr] at h3
      obtain ⟨n, D, ⟨_, es, clock, b1, _⟩, _⟩ := h3
      have h4 := (h.pl i hi).ref.1
      rw [← e, b1] at h4
      cases h4
    · refine ⟨fun e => ?_, fun s hs2 => (hs.2 s r hs2 hr).2⟩
      have h3 := (h.pl i hi).set
      rw [hr] at h3
      obtain ⟨n, D, ⟨_, es, clock, b1, _⟩, _⟩ := h3
      have h4 := (h.pl j hj).ref.1
      rw [e, b1] at h4
      cases h4
  refine ⟨hb, h.lo, ?_, ho.own h.row, fun j hj => ?_, fun a b ha hb' hab => ?_, fun e he => ho.kp (h.kp e he)⟩
  · rw [ho.at_ h.wld (by decide), h.wld, wcells_up P i p _ h1 h2]
  · by_cases e : j = i
    · subst e; rw [upP_same]; exact hp
    · rw [upP_other P p e]; exact ho.pl (h.pl j hj) (hoth j hj e).1 (hoth j hj e).2
  · have a0 : ∀ j, (upP P i p j).o = (P j).o ∧ (upP P i p j).q = (P j).q := fun j => by
      by_cases e : j = i
      · subst e; rw [upP_same]; exact ⟨h1, h2⟩
      · rw [upP_other P p e]; exact ⟨rfl, rfl⟩
    rw [(a0 a).1, (a0 a).2, (a0 b).1, (a0 b).2]
    exact h.sep a b ha hb' hab
theorem WS.only_q (h : WS w0 T gw P Ak ck K W) {i : Nat} (hi : i < 3) (hu : Upd (fun k => k = (P i).q) W W') : Only (P i).q W W' :=
  ⟨fun k hk hne => hu.block k hk hne, fun b cs t fr hb ht e => by
    have h4 := (h.pl i hi).ref.1
    rw [← e, hb] at h4
    injection h4 with h4
    injection h4 with _ h4 _
    exact ht h4⟩
theorem WS.only_m (h : WS w0 T gw P Ak ck K W) {i : Nat} (hi : i < 3) {r : Nat × Nat} (hr : (P i).o = some r) (hg : W.grownBy W' (some r.2)) : Only r.2 W W' :=
  ⟨fun k hk hne => hg.block k hk (by simpa using hne), fun b cs t fr hb ht e => by
    have h3 := (h.pl i hi).set
    rw [hr] at h3
    obtain ⟨n, D, ⟨_, es, clock, b1, _⟩, _⟩ := h3
    rw [e, b1] at hb
    cases hb⟩
/-- The cells of the struct. -/
theorem WS.cell (h : WS w0 T gw P Ak ck K W) {k : Nat} {v : Value} (hv : (wcells P Ak K.length ck)[k]? = some v) : W.cell? ⟨gw, k, none⟩ = some v := by
  unfold World.cell?
  simp only [h.wld, List.getElem?_toArray]
  exact hv
theorem WS.cp (h : WS w0 T gw P Ak ck K W) {i : Nat} (hi : i < 3) : W.cell? ⟨gw, i, none⟩ = some (pv (P i).o) := h.cell (by rcases (show i = 0 ∨ i = 1 ∨ i = 2 by omega) with rfl | rfl | rfl <;> rfl)
theorem WS.cr (h : WS w0 T gw P Ak ck K W) {i : Nat} (hi : i < 3) : W.cell? ⟨gw, 3 + i, none⟩ = some (.pointer (some ⟨(P i).q, 0, none⟩)) := h.cell (by rcases (show i = 0 ∨ i = 1 ∨ i = 2 by omega) with rfl | rfl | rfl <;> rfl)
theorem WS.cn (h : WS w0 T gw P Ak ck K W) {i : Nat} (hi : i < 3) : W.cell? ⟨gw, 6 + i, none⟩ = some (.bool (P i).o.isNone) := h.cell (by rcases (show i = 0 ∨ i = 1 ∨ i = 2 by omega) with rfl | rfl | rfl <;> rfl)
theorem WS.ck9 (h : WS w0 T gw P Ak ck K W) : W.cell? ⟨gw, 9, none⟩ = some (.slice Ak K.length ck) := h.cell rfl
theorem WS.fz (h : WS w0 T gw P Ak ck K W) (k : Nat) : W.frozen? ⟨gw, k, none⟩ = false := frozen_of_row _ _ _ _ _ h.wld
theorem PlAt.lenP (h : PlAt w0 T p W) : p.kp.length ≤ T.length := rise_len h.set.rise h.inP
theorem PlAt.lenR (h : PlAt w0 T p W) : p.kr.length ≤ T.length := rise_len h.rise h.inR
theorem KpAt.len (h : KpAt T e W) : e.ks.length ≤ T.length := rise_len h.rise h.inT
end
end Go.Proofs.Ytlolnpilpdkbkaa

namespace Go.Proofs.Ytlolnpilpdkbkaa
open Go.RowKit Go.Maps
set_option linter.unusedSimpArgs false
set_option linter.unusedVariables false

def th (n : Int) : Nat := (Int.tmod (Int.tmod n 3 + 3) 3).toNat
theorem th_lt (n : Int) : th n < 3 := by
  unfold th
  have h1 := Int.tmod_lt_of_pos n (show (0 : Int) < 3 by decide)
  have h2 : -3 < Int.tmod n 3 := by
    have := Int.lt_tmod_of_pos n (show (0 : Int) < 3 by decide)
    simpa using this
  have h3 := Int.tmod_lt_of_pos (Int.tmod n 3 + 3) (show (0 : Int) < 3 by decide)
  have h4 : 0 ≤ Int.tmod (Int.tmod n 3 + 3) 3 := Int.tmod_nonneg _ (by omega)
  omega
theorem th_eq (n : Int) : Int.tmod (Int.tmod n 3 + 3) 3 = ((th n : Nat) : Int) := by
  unfold th
  have h2 : -3 < Int.tmod n 3 := by
    have := Int.lt_tmod_of_pos n (show (0 : Int) < 3 by decide)
    simpa using this
  have h4 : 0 ≤ Int.tmod (Int.tmod n 3 + 3) 3 := Int.tmod_nonneg _ (by omega)
  omega
set_option maxRecDepth 100000 in
theorem three_any (w : World) (n : Int) : Calls Try.prog 39 #[.int .i64 n] w fun e w' => e = .returned (.int .i64 ((th n : Nat) : Int)) ∧ w' = w := by
  have h1 := Int.tmod_lt_of_pos n (show (0 : Int) < 3 by decide)
  have h2 : -3 < Int.tmod n 3 := by
    have := Int.lt_tmod_of_pos n (show (0 : Int) < 3 by decide)
    simpa using this
  have h3 := th_eq n
  have h4 := th_lt n
  have hw : wrap64 (Int.tmod n 3 + 3) = Int.tmod n 3 + 3 := by unfold wrap64; omega
  go_enter Try.func39, Try.ntmps39
  go_wp2_with fail
  go_ret
  exact ⟨rfl, rfl⟩
/-- Only the struct has changed. -/
structure OnlyW (gw : Nat) (W W' : World) : Prop where
  chg : ∀ k, k < W.heap.size → k ≠ gw → W'.heap[k]? = W.heap[k]?
  wld : ∃ cs, W.heap[gw]? = some (.cells cs 55 (0, 0))
section
variable {w0 W W' : World} {T : List (List Nat)} {gw ck : Nat} {P : Nat → Pl} {Ak : Option Addr} {K : List Kp} {p : Pl} {e : Kp}
theorem OnlyW.at_ (h : OnlyW gw W W') {b : Nat} {cs : Array Value} {t : TypeId} {fr : Nat × Nat} (hb : W.heap[b]? = some (.cells cs t fr)) (ht : t ≠ 55) : W'.heap[b]? = W.heap[b]? := by
  refine h.chg b (Array.getElem?_eq_some_iff.1 hb).1 fun e => ?_
  obtain ⟨cs', h2⟩ := h.wld
  rw [e, h2] at hb
  injection hb with hb
  injection hb with _ hb _
  exact ht hb.symm
theorem OnlyW.map_ (h : OnlyW gw W W') {b : Nat} {es : Array MapEntry} {cl : Nat} (hb : W.heap[b]? = some (.map es cl)) : W'.heap[b]? = W.heap[b]? := by
  refine h.chg b (Array.getElem?_eq_some_iff.1 hb).1 fun e => ?_
  obtain ⟨cs', h2⟩ := h.wld
  rw [e, h2] at hb
  cases hb
theorem OnlyW.set (h : OnlyW gw W W') {o : Option (Nat × Nat)} {ks : List (List Nat)} (hs : SetO W o ks) : ∀ r, o = some r → W'.heap[r.1]? = W.heap[r.1]? ∧ W'.heap[r.2]? = W.heap[r.2]? := fun r hr => by
  subst hr
  obtain ⟨n, D, ⟨h1, es, clock, b1, _⟩, _⟩ := hs
  exact ⟨h.at_ h1 (by decide), h.map_ b1⟩
theorem OnlyW.pl (h : OnlyW gw W W') (hp : PlAt w0 T p W) : PlAt w0 T p W' :=
  hp.same (h.at_ hp.ref.1 (by decide)) (fun k hk => by obtain ⟨cs, fr, ht⟩ := hp.ref.tag hk; exact h.at_ ht (by decide)) (h.set hp.set)
theorem OnlyW.kp (h : OnlyW gw W W') (he : KpAt T e W) : KpAt T e W' :=
  he.same (h.at_ he.all.1 (by decide)) (fun k hk => by
    rcases hk with hk | hk
    · obtain ⟨cs, ht⟩ := own_tag he.all.2 hk; exact h.at_ ht (by decide)
    · obtain ⟨cs, ht⟩ := own_tag he.own hk; exact h.at_ ht (by decide))
theorem OnlyW.own {B n c : Nat} {A : Option Addr} {xs : List Value} (h : OnlyW gw W W') (ho : Own W B 63 2 A n c xs) : Own W' B 63 2 A n c xs :=
  own_same ho fun k hk => by obtain ⟨cs, ht⟩ := own_tag ho hk; exact h.at_ ht (by decide)
/-- Another set in a place. -/
theorem WS.put (h : WS w0 T gw P Ak ck K W) {t : Nat} (ht : t < 3) (p : Pl) (hp : PlAt w0 T p W) (hnew : ∀ j, j < 3 → j ≠ t → (P j).q ≠ p.q ∧ ∀ r s, (P j).o = some r → p.o = some s → r.1 ≠ s.1 ∧ r.2 ≠ s.2)
    (hu : Upd (fun k => k = gw) W W') (hc : W'.heap[gw]? = some (.cells (wcells (upP P t p) Ak K.length ck).toArray 55 (0, 0))) : WS w0 T gw (upP P t p) Ak ck K W' := by
  have hO : OnlyW gw W W' := ⟨fun k hk hne => hu.block k hk hne, _, h.wld⟩
  refine ⟨h.bel.trans (hu.below (fun k _ e => by rw [e]; exact h.lo) h.bel.size), h.lo, hc, hO.own h.row, fun j hj => ?_, fun a b ha hb hab => ?_, fun e he => hO.kp (h.kp e he)⟩
  · by_cases e : j = t
    · subst e; rw [upP_same]; exact hO.pl hp
    · rw [upP_other P p e]; exact hO.pl (h.pl j hj)
  · by_cases e1 : a = t
    · subst e1
      rw [upP_same, upP_other P p (Ne.symm hab)]
      have := hnew b hb (Ne.symm hab)
      exact ⟨Ne.symm this.1, fun r s hr hs => ⟨Ne.symm (this.2 s r hs hr).1, Ne.symm (this.2 s r hs hr).2⟩⟩
    · rw [upP_other P p e1]
      by_cases e2 : b = t
      · subst e2
        rw [upP_same]
        exact hnew a ha e1
      · rw [upP_other P p e2]
        exact h.sep a b ha hb hab
end
/-- What stands while put writes: the struct's block. -/
structure PuS (gw : Nat) (w W : World) : Prop where
  upd : Upd (fun k => k = gw) w W
  blk : ∃ cs, W.heap[gw]? = some (.cells cs 55 (0, 0)) ∧ cs.size = 10
theorem PuS.cel {gw : Nat} {w W : World} (h : PuS gw w W) (k : Nat) (hk : k < 10) : ∃ v, W.cell? ⟨gw, k, none⟩ = some v := by
  obtain ⟨cs, h1, h2⟩ := h.blk
  exact ⟨cs[k], by unfold World.cell?; simp [h1, h2, hk]⟩
theorem PuS.fz {gw : Nat} {w W : World} (h : PuS gw w W) (k : Nat) : W.frozen? ⟨gw, k, none⟩ = false := by
  obtain ⟨cs, h1, h2⟩ := h.blk
  exact frozen_of_row _ _ _ _ _ h1
theorem PuS.set {gw : Nat} {w W : World} (h : PuS gw w W) (k : Nat) (v : Value) : PuS gw w (W.setCell ⟨gw, k, none⟩ v) := by
  obtain ⟨cs, h1, h2⟩ := h.blk
  exact ⟨h.upd.trans (Upd.set (F := fun k => k = gw) W (p := ⟨gw, k, none⟩) rfl v), _, heap_setCell_same W gw k _ _ v h1, by simp [h2]⟩
/-- put, whatever the struct holds. -/
def PutR (w : World) (gw : Nat) (t so q : Nat) (vs : Array Value) (e : Ending) (w' : World) : Prop :=
  e = .returned (.bool true) ∧ Upd (fun k => k = gw) w w' ∧ w'.heap[gw]? = some (.cells (((vs.setIfInBounds t (.pointer (some ⟨so, 0, none⟩))).setIfInBounds (3 + t) (.pointer (some ⟨q, 0, none⟩))).setIfInBounds (6 + t) (.bool false)) 55 (0, 0))
set_option maxRecDepth 100000 in
set_option maxHeartbeats 1000000 in
theorem put_raw (w : World) (gw t so q : Nat) (ht : t < 3) (v0 v1 v2 v3 v4 v5 v6 v7 v8 v9 : Value) (h : w.heap[gw]? = some (.cells #[v0, v1, v2, v3, v4, v5, v6, v7, v8, v9] 55 (0, 0))) :
    Calls Try.prog 21 #[.pointer (some ⟨gw, 0, none⟩), .int .i64 (t : Int), .pointer (some ⟨so, 0, none⟩), .pointer (some ⟨q, 0, none⟩)] w (PutR w gw t so q #[v0, v1, v2, v3, v4, v5, v6, v7, v8, v9]) := by
  have hc : ∀ (k : Nat) v, ([v0, v1, v2, v3, v4, v5, v6, v7, v8, v9] : List Value)[k]? = some v → w.cell? ⟨gw, k, none⟩ = some v := fun k v hv => by
    unfold World.cell?
    simp only [h, List.getElem?_toArray]
    exact hv
  have a0 := hc 0 v0 rfl
  have a1 := hc 1 v1 rfl
  have a2 := hc 2 v2 rfl
  have a3 := hc 3 v3 rfl
  have a4 := hc 4 v4 rfl
  have a5 := hc 5 v5 rfl
  have a6 := hc 6 v6 rfl
  have a7 := hc 7 v7 rfl
  have a8 := hc 8 v8 rfl
  have f : ∀ k, w.frozen? ⟨gw, k, none⟩ = false := fun k => frozen_of_row _ _ _ _ _ h
  have hwl := Lib.hid h
  have hfin : Hid (∀ W', Upd (fun k => k = gw) w W' → W'.heap[gw]? = some (.cells (((#[v0, v1, v2, v3, v4, v5, v6, v7, v8, v9].setIfInBounds t (.pointer (some ⟨so, 0, none⟩))).setIfInBounds (3 + t) (.pointer (some ⟨q, 0, none⟩))).setIfInBounds (6 + t) (.bool false)) 55 (0, 0)) → PutR w gw t so q #[v0, v1, v2, v3, v4, v5, v6, v7, v8, v9] (.returned (.bool true)) W') := Lib.hid fun W' a b => ⟨rfl, a, b⟩
  obtain ⟨Q, hQ⟩ : ∃ Q, PutR w gw t so q #[v0, v1, v2, v3, v4, v5, v6, v7, v8, v9] = Q := ⟨_, rfl⟩
  rw [hQ] at hfin ⊢
  clear h hc hQ
  rcases (show t = 0 ∨ t = 1 ∨ t = 2 by omega) with rfl | rfl | rfl
  · go_enter Try.func21, Try.ntmps21
    go_wp2_with fail
    go_region
    have hu : Upd (fun k => k = gw) w ((((w.setCell ⟨gw, 0, none⟩ (.pointer (some ⟨so, 0, none⟩))).setCell ⟨gw, 3, none⟩ (.pointer (some ⟨q, 0, none⟩))).setCell ⟨gw, 6, none⟩ (.bool false)).drew) := ((((Upd.refl _ w).trans (Upd.set (F := fun k => k = gw) _ (p := ⟨gw, 0, none⟩) rfl _)).trans (Upd.set (F := fun k => k = gw) _ (p := ⟨gw, 3, none⟩) rfl _)).trans (Upd.set (F := fun k => k = gw) _ (p := ⟨gw, 6, none⟩) rfl _)).drewN 1
    have hf := Lib.hid (hfin.out _ hu (heap_setCell_same _ gw 6 _ _ (.bool false) (heap_setCell_same _ gw 3 _ _ (.pointer (some ⟨q, 0, none⟩)) (heap_setCell_same w gw 0 _ _ (.pointer (some ⟨so, 0, none⟩)) hwl.out))))
    clear hu
    go_wp2_with fail
    exact hf.out
  · go_enter Try.func21, Try.ntmps21
    go_wp2_with fail
    go_region
    have hu : Upd (fun k => k = gw) w ((((w.setCell ⟨gw, 1, none⟩ (.pointer (some ⟨so, 0, none⟩))).setCell ⟨gw, 4, none⟩ (.pointer (some ⟨q, 0, none⟩))).setCell ⟨gw, 7, none⟩ (.bool false)).drew) := ((((Upd.refl _ w).trans (Upd.set (F := fun k => k = gw) _ (p := ⟨gw, 1, none⟩) rfl _)).trans (Upd.set (F := fun k => k = gw) _ (p := ⟨gw, 4, none⟩) rfl _)).trans (Upd.set (F := fun k => k = gw) _ (p := ⟨gw, 7, none⟩) rfl _)).drewN 1
    have hf := Lib.hid (hfin.out _ hu (heap_setCell_same _ gw 7 _ _ (.bool false) (heap_setCell_same _ gw 4 _ _ (.pointer (some ⟨q, 0, none⟩)) (heap_setCell_same w gw 1 _ _ (.pointer (some ⟨so, 0, none⟩)) hwl.out))))
    clear hu
    go_wp2_with fail
    exact hf.out
  · go_enter Try.func21, Try.ntmps21
    go_wp2_with fail
    go_region
    have hu : Upd (fun k => k = gw) w ((((w.setCell ⟨gw, 2, none⟩ (.pointer (some ⟨so, 0, none⟩))).setCell ⟨gw, 5, none⟩ (.pointer (some ⟨q, 0, none⟩))).setCell ⟨gw, 8, none⟩ (.bool false)).drew) := ((((Upd.refl _ w).trans (Upd.set (F := fun k => k = gw) _ (p := ⟨gw, 2, none⟩) rfl _)).trans (Upd.set (F := fun k => k = gw) _ (p := ⟨gw, 5, none⟩) rfl _)).trans (Upd.set (F := fun k => k = gw) _ (p := ⟨gw, 8, none⟩) rfl _)).drewN 1
    have hf := Lib.hid (hfin.out _ hu (heap_setCell_same _ gw 8 _ _ (.bool false) (heap_setCell_same _ gw 5 _ _ (.pointer (some ⟨q, 0, none⟩)) (heap_setCell_same w gw 2 _ _ (.pointer (some ⟨so, 0, none⟩)) hwl.out))))
    clear hu
    go_wp2_with fail
    exact hf.out
theorem put_any (w0 w : World) (T : List (List Nat)) (gw : Nat) (P : Nat → Pl) (Ak : Option Addr) (ck : Nat) (K : List Kp) (h : WS w0 T gw P Ak ck K w) (t : Nat) (ht : t < 3) (so mo : Nat) (kp : List (List Nat)) (q : Nat) (A : Option Addr) (c : Nat) (kr : List (List Nat))
    (hp : PlAt w0 T ⟨some (so, mo), kp, q, A, c, kr⟩ w) (hnew : ∀ j, j < 3 → j ≠ t → (P j).q ≠ q ∧ ∀ r, (P j).o = some r → r.1 ≠ so ∧ r.2 ≠ mo) :
    Calls Try.prog 21 #[.pointer (some ⟨gw, 0, none⟩), .int .i64 (t : Int), .pointer (some ⟨so, 0, none⟩), .pointer (some ⟨q, 0, none⟩)] w fun e w' => e = .returned (.bool true) ∧ WS w0 T gw (upP P t ⟨some (so, mo), kp, q, A, c, kr⟩) Ak ck K w' := by
  refine (put_raw w gw t so q ht _ _ _ _ _ _ _ _ _ _ h.wld).mono ?_
  rintro e W' ⟨he, hu, hc⟩
  refine ⟨he, h.put ht _ hp (fun j hj hjt => ⟨(hnew j hj hjt).1, fun r s hr hs => ?_⟩) hu ?_⟩
  · cases hs
    exact (hnew j hj hjt).2 r hr
  · rw [hc]
    rcases (show t = 0 ∨ t = 1 ∨ t = 2 by omega) with rfl | rfl | rfl <;> rfl
end Go.Proofs.Ytlolnpilpdkbkaa

namespace Go.Proofs.Ytlolnpilpdkbkaa
open Go.RowKit Go.Maps
set_option linter.unusedSimpArgs false
set_option linter.unusedVariables false

/-- A step of the script. -/
structure St where
  kind : Int
  on : Int
  wi : Int
  key : List Nat
  A : Option Addr
  c : Nat
  xs : List (List Nat)
  any : Bool
  pre : ByteArray
def stepL (s : St) : List Value := .int .i64 s.kind :: .int .i64 s.on :: .int .i64 s.wi :: (u8s s.key ++ [.slice s.A s.xs.length s.c, .bool s.any, .string s.pre])
/-- The step's box. -/
def SB (gs : Nat) (s : St) (W : World) : Prop := W.heap[gs]? = some (.cells (stepL s).toArray 60 (0, 0))
section
variable {gs : Nat} {s : St} {W W' : World}
theorem SB.below (h : SB gs s W) (hb : Below W.heap.size W W') : SB gs s W' := (hb.block _ (Array.getElem?_eq_some_iff.1 h).1).trans h
theorem SB.cell (h : SB gs s W) {k : Nat} {v : Value} (hv : (stepL s)[k]? = some v) : W.cell? ⟨gs, k, none⟩ = some v := by
  unfold World.cell?
  rw [show W.heap[gs]? = _ from h]
  simpa using hv
theorem SB.c0 (h : SB gs s W) : W.cell? ⟨gs, 0, none⟩ = some (.int .i64 s.kind) := h.cell rfl
theorem SB.c1 (h : SB gs s W) : W.cell? ⟨gs, 1, none⟩ = some (.int .i64 s.on) := h.cell rfl
theorem SB.c2 (h : SB gs s W) : W.cell? ⟨gs, 2, none⟩ = some (.int .i64 s.wi) := h.cell rfl
theorem step_at (s : St) (hk : s.key.length = 32) (j : Nat) : (stepL s)[3 + j]? = (u8s s.key ++ [.slice s.A s.xs.length s.c, .bool s.any, .string s.pre])[j]? := by
  rw [show 3 + j = j + 1 + 1 + 1 by omega]
  rfl
theorem SB.rk (h : SB gs s W) (hk : s.key.length = 32) : W.rangeAt gs 3 (u8s s.key) := fun j v hv => by
  refine h.cell ?_
  have hj := (List.getElem?_eq_some_iff.1 hv).1
  rw [step_at s hk, List.getElem?_append_left hj, hv]
theorem SB.c35 (h : SB gs s W) (hk : s.key.length = 32) : W.cell? ⟨gs, 35, none⟩ = some (.slice s.A s.xs.length s.c) := h.cell (by
  rw [show 35 = 3 + 32 from rfl, step_at s hk, List.getElem?_append_right (by rw [u8s_length]; omega), u8s_length, hk]; rfl)
theorem SB.c36 (h : SB gs s W) (hk : s.key.length = 32) : W.cell? ⟨gs, 36, none⟩ = some (.bool s.any) := h.cell (by
  rw [show 36 = 3 + 33 from rfl, step_at s hk, List.getElem?_append_right (by rw [u8s_length]; omega), u8s_length, hk]; rfl)
theorem SB.c37 (h : SB gs s W) (hk : s.key.length = 32) : W.cell? ⟨gs, 37, none⟩ = some (.string s.pre) := h.cell (by
  rw [show 37 = 3 + 34 from rfl, step_at s hk, List.getElem?_append_right (by rw [u8s_length]; omega), u8s_length, hk]; rfl)
end
/-- What a step may hold. -/
structure StOk (w0 : World) (T : List (List Nat)) (s : St) : Prop where
  key : IsK s.key
  row : KeyRow w0 s.A s.xs
  pre : s.pre.size ≤ 1048576
  inK : s.key ∈ T
  inX : ∀ x ∈ s.xs, x ∈ T
  len : s.xs.length ≤ 1048576
/-- The document's set's cell. -/
def RQ (q : Nat) (A : Option Addr) (N c : Nat) (W : World) : Prop := W.heap[q]? = some (.cells #[.slice A N c] 67 (0, 0))
theorem RQ.below {q N c : Nat} {A : Option Addr} {W W' : World} (h : RQ q A N c W) (hb : Below W.heap.size W W') : RQ q A N c W' := (hb.block _ (Array.getElem?_eq_some_iff.1 h).1).trans h
theorem RQ.cel {q N c : Nat} {A : Option Addr} {W : World} (h : RQ q A N c W) : W.cell? ⟨q, 0, none⟩ = some (.slice A N c) := by
  unfold World.cell?
  rw [show W.heap[q]? = _ from h]
  rfl
theorem tells_any (w : World) (gI cI : Nat) (AI : Option Addr) (ks : List (List Nat)) (hat : AllAt w gI AI cI ks) (hr : Rise32 ks) (hl : ks.length ≤ 4194304) (A : Option Addr) (c : Nat) (ho : Own w 0 25 32 A ks.length c (rowsK ks)) :
    Calls Try.prog 25 #[.agg #[.func (.func 53) #[] #[.pointer (some ⟨gI, 0, none⟩)], .slice A ks.length c]] w fun e w' => e = .returned (.bool true) ∧ Below w.heap.size w w' := by
  by_cases h : ks = []
  · exact tells_nil w gI cI AI ks hat hr hl A c ho h
  · exact tells_cons w gI cI AI ks hat hr hl A c ho h
theorem bldKept (gI : Nat) (A : Option Addr) (N c : Nat) (w : World) : (Instr.build 63 #[(0, .func (.func 53) #[] #[.pointer (some ⟨gI, 0, none⟩)]), (1, .slice A N c)]).run Try.prog w = .ok (.agg #[.func (.func 53) #[] #[.pointer (some ⟨gI, 0, none⟩)], .slice A N c]) w :=
  run_build w _ _ _ (by kernel_rfl)
theorem find_len (ks : List (List Nat)) (hk : ∀ x ∈ ks, IsK x) (any : Bool) (af : List Nat) : ((ks.find? (passK any af)).getD (zeros 32)).length = 32 := by
  cases h : ks.find? (passK any af) with
  | none => simp [zeros]
  | some y => exact (hk y (List.mem_of_find?_eq_some h)).1
theorem findQ_len (ks : List (List Nat)) (hk : ∀ x ∈ ks, IsK x) (p : List UInt8) : (findQ ks p).1.length = 32 := by
  unfold findQ
  split
  · simp [zeros]
  · have hf : ∀ x ∈ ks.filter (begK p), x.length = 32 := fun x hx => (hk x (List.mem_filter.1 hx).1).1
    revert hf
    generalize ks.filter (begK p) = L
    intro hf
    match L, hf with
    | [], _ => simp [findL, zeros]
    | [x], hf => exact hf x (by simp)
    | _ :: _ :: _, _ => simp [findL, zeros]
def Eqs (P : Nat → Pl) : Prop := ∀ i, i < 3 → (P i).kp = (P i).kr
def AskP (w0 : World) (T : List (List Nat)) (gw : Nat) (P : Nat → Pl) (K : List Kp) (e : Ending) (w' : World) : Prop :=
  e = .returned (.bool true) ∧ ∃ Ak ck K', K'.length ≤ K.length + 1 ∧ WS w0 T gw P Ak ck K' w'
end Go.Proofs.Ytlolnpilpdkbkaa

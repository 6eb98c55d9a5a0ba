/- GearStreams: what stands between two steps. -/
import Derived.Test.YtnjbpacnmiimlaaDoorGtL
import Derived.Test.YtnjbpacnmiimlaaDoorGpW
import Derived.Test.YtnjbpacnmiimlaaDoorGpT
namespace Go.Proofs.YtnjbpacnmiimlaaDoor
open Go.RowKit

abbrev Rul := Int × Int × Int
/-- One of the two Cutters: its pointer, whether it was ended, what it holds, the blocks that it may write. -/
def SideL (W : World) (B : Nat) (r : Rul) (p : Value) (g : List Nat) (D : Nat → Prop) : Prop :=
  ∃ bc A n c S, p = .pointer (some ⟨bc, 0, none⟩) ∧ Cutr W B bc r.1 r.2.1 r.2.2 A n c g S ∧ D = Dirty bc A S
def SideS (W : World) (B : Nat) (r : Rul) (p : Value) (e : Bool) (k : Int) (g : List Nat) (D : Nat → Prop) : Prop :=
  g = [] ∧ ((p = .pointer none ∧ k = 1 ∧ e = false ∧ D = fun _ => False) ∨ ∃ bc S, p = .pointer (some ⟨bc, 0, none⟩) ∧ k = 3 ∧ e = true ∧ Over W bc r.1 r.2.1 r.2.2 S ∧ B ≤ bc ∧ D = fun k => k = bc)
def Side (W : World) (B : Nat) (r : Rul) (p : Value) (e : Bool) (g : List Nat) (D : Nat → Prop) : Prop := (e = false ∧ SideL W B r p g D) ∨ ∃ k, SideS W B r p e k g D
section
variable {W W' : World} {B : Nat} {r : Rul} {p : Value} {e : Bool} {g : List Nat} {D Dx : Nat → Prop}
theorem Side.fr (h : Side W B r p e g D) (hf : Fr Dx W W') (hD : ∀ k, D k → ¬ Dx k) : Side W' B r p e g D := by
  rcases h with ⟨he, bc, A, n, c, S, hp, hc, rfl⟩ | ⟨k, hg, h⟩
  · exact .inl ⟨he, bc, A, n, c, S, hp, hc.fr hf hD, rfl⟩
  · refine .inr ⟨k, hg, ?_⟩
    rcases h with h | ⟨bc, S, hp, hk, he, ho, hB, rfl⟩
    · exact .inl h
    · exact .inr ⟨bc, S, hp, hk, he, (hf.block bc (lt_of_block ho) (hD bc rfl)).trans ho, hB, rfl⟩
theorem Side.lt (h : Side W B r p e g D) : ∀ k, D k → B ≤ k ∧ k < W.heap.size := fun k hk => by
  rcases h with ⟨he, bc, A, n, c, S, hp, hc, rfl⟩ | ⟨_, hg, h⟩
  · exact hc.lt k hk
  · rcases h with ⟨_, _, _, rfl⟩ | ⟨bc, S, hp, _, he, ho, hB, rfl⟩
    · exact hk.elim
    · subst hk
      exact ⟨hB, lt_of_block ho⟩
end

/-- Turned at one place. -/
def upd {α : Type} (f : Nat → α) (s : Nat) (v : α) : Nat → α := fun t => if t = s then v else f t
theorem upd_same {α : Type} (f : Nat → α) (s : Nat) (v : α) : upd f s v s = v := if_pos rfl
theorem upd_other {α : Type} (f : Nat → α) {s t : Nat} (v : α) (h : t ≠ s) : upd f s v t = f t := if_neg h

/-- What stands between two steps. b: the heap's size at the beginning. -/
structure GsI (w : World) (ru : Nat → Rul) (T J : Nat) (p : Nat → Value) (e ea : Nat → Bool) (g h : Nat → List Nat) (A : Nat → Option Addr) (c : Nat → Nat) (D : Nat → Nat → Prop) (zs : List Pt) (AK : Option Addr) (cK : Nat) (W : World) : Prop where
  bel : Below w.heap.size w W
  rl : W.heap[w.heap.size + 2]? = some (.cells #[.int .i64 (ru 0).1, .int .i64 (ru 0).2.1, .int .i64 (ru 0).2.2, .int .i64 (ru 1).1, .int .i64 (ru 1).2.1, .int .i64 (ru 1).2.2] 60 (0, 0))
  pt : W.heap[w.heap.size + 3]? = some (.cells #[p 0, p 1] 61 (0, 0))
  hd : W.heap[w.heap.size + 4]? = some (.cells #[.slice (A 0) (h 0).length (c 0), .slice (A 1) (h 1).length (c 1)] 62 (0, 0))
  en : W.heap[w.heap.size + 5]? = some (.cells #[.bool (ea 0), .bool (ea 1)] 63 (0, 0))
  sd : ∀ s, s < 2 → Side W (w.heap.size + 6) (ru s) (p s) (e s) (g s) (D s)
  hr : ∀ s, s < 2 → Byt W W.heap.size (A s) (h s)
  hn : ∀ s, s < 2 → 0 < (h s).length → ∀ k, blockOf (A s) = some k → w.heap.size + 6 ≤ k ∧ k < W.heap.size ∧ ∀ t, t < 2 → ¬ D t k
  hk : ∀ s, s < 2 → 0 < (h s).length → ∀ k, blockOf (A s) = some k → blockOf AK ≠ some k
  hl : ∀ s, s < 2 → (h s).length ≤ T ∧ ∀ b ∈ h s, b < 256
  dd : ∀ k, D 0 k → ¬ D 1 k
  ke : Own W (w.heap.size + 6) 24 1 AK zs.length cK (zs.map Pt.v)
  kn : ∀ k, blockOf AK = some k → ∀ t, t < 2 → ¬ D t k
  po : ∀ z ∈ zs, Own W (w.heap.size + 6) 5 1 z.A z.l.length z.c (u8s z.l)
  pn : ∀ z ∈ zs, ∀ k, blockOf z.A = some k → ∀ t, t < 2 → ¬ D t k
  di : zs.Pairwise fun x y => Dis x.A y.A
  pl : ∀ z ∈ zs, z.l.length ≤ 1048576
  jl : zs.length ≤ J
section
variable {w : World} {ru : Nat → Rul} {T J : Nat} {p : Nat → Value} {e ea : Nat → Bool} {g h : Nat → List Nat} {A : Nat → Option Addr} {c : Nat → Nat} {D : Nat → Nat → Prop} {zs : List Pt} {AK : Option Addr} {cK : Nat} {W W' : World} {Dx : Nat → Prop}
theorem GsI.sz (x : GsI w ru T J p e ea g h A c D zs AK cK W) : w.heap.size + 6 ≤ W.heap.size := lt_of_block x.en
theorem GsI.dis (x : GsI w ru T J p e ea g h A c D zs AK cK W) {s t : Nat} (hs : s < 2) (ht : t < 2) (hne : s ≠ t) (k : Nat) (h1 : D s k) : ¬ D t k := by
  rcases (show (s = 0 ∧ t = 1) ∨ (s = 1 ∧ t = 0) by omega) with ⟨rfl, rfl⟩ | ⟨rfl, rfl⟩
  · exact x.dd k h1
  · exact fun h2 => x.dd k h2 h1
/-- A step that writes none of it. -/
theorem GsI.fr (x : GsI w ru T J p e ea g h A c D zs AK cK W) (hf : Fr Dx W W') (hlo : ∀ k, k < w.heap.size + 6 → ¬ Dx k) (hD : ∀ t, t < 2 → ∀ k, D t k → ¬ Dx k) (hA : ∀ s, s < 2 → 0 < (h s).length → ∀ k, blockOf (A s) = some k → ¬ Dx k) (hK : ∀ k, blockOf AK = some k → ¬ Dx k) (hz : ∀ z ∈ zs, ∀ k, blockOf z.A = some k → ¬ Dx k) :
    GsI w ru T J p e ea g h A c D zs AK cK W' := by
  have hs := x.sz
  have lo : ∀ k, k < w.heap.size + 6 → W'.heap[k]? = W.heap[k]? := fun k hk => hf.block k (by omega) (hlo k hk)
  exact {
    bel := x.bel.trans ⟨hf.os, hf.tape, hf.output, hf.size, fun k hk => lo k (by omega)⟩
    rl := (lo _ (by omega)).trans x.rl
    pt := (lo _ (by omega)).trans x.pt
    hd := (lo _ (by omega)).trans x.hd
    en := (lo _ (by omega)).trans x.en
    sd := fun s hs => (x.sd s hs).fr hf (hD s hs)
    hr := fun s hs => by
      rcases Nat.eq_zero_or_pos (h s).length with h0 | h0
      · intro hp
        omega
      · exact ((x.hr s hs).fr hf (hA s hs h0)).mono hf.size
    hn := fun s hs h0 k hk => ⟨(x.hn s hs h0 k hk).1, Nat.lt_of_lt_of_le (x.hn s hs h0 k hk).2.1 hf.size, (x.hn s hs h0 k hk).2.2⟩
    hk := x.hk
    hl := x.hl
    dd := x.dd
    ke := x.ke.fr hf hK
    kn := x.kn
    po := fun z hz2 => (x.po z hz2).fr hf (hz z hz2)
    pn := x.pn
    di := x.di
    pl := x.pl
    jl := x.jl }
theorem GsI.keep (x : GsI w ru T J p e ea g h A c D zs AK cK W) (hb : Below W.heap.size W W') : GsI w ru T J p e ea g h A c D zs AK cK W' :=
  x.fr (Fr.of_below (fun _ => False) hb) (fun _ _ h => h) (fun _ _ _ _ h => h) (fun _ _ _ _ _ h => h) (fun _ _ h => h) (fun _ _ _ _ h => h)
/-- A block that came later is none of it. -/
theorem GsI.far (x : GsI w ru T J p e ea g h A c D zs AK cK W) {k : Nat} (hk : W.heap.size ≤ k) : (∀ t, t < 2 → ¬ D t k) ∧ (∀ s, s < 2 → 0 < (h s).length → blockOf (A s) ≠ some k) ∧ blockOf AK ≠ some k ∧ ∀ z ∈ zs, blockOf z.A ≠ some k :=
  ⟨fun t ht hd => by have := ((x.sd t ht).lt k hd).2; omega, fun s hs h0 he => by have := (x.hn s hs h0 k he).2.1; omega, fun he => by have := (x.ke.lt k he).2; omega, fun z hz he => by have := ((x.po z hz).lt k he).2; omega⟩
/-- One Cutter has gone on. -/
theorem GsI.turn (x : GsI w ru T J p e ea g h A c D zs AK cK W) {s : Nat} (hs : s < 2) (hf : Fr (D s) W W') {D' : Nat → Prop} {e' : Bool} {g' : List Nat} (hsd : Side W' (w.heap.size + 6) (ru s) (p s) e' g' D') (hD' : ∀ k, k < W.heap.size → D' k → D s k) :
    GsI w ru T J p (upd e s e') ea (upd g s g') h A c (upd D s D') zs AK cK W' := by
  have y := x.fr hf (fun k hk hd => by have := ((x.sd s hs).lt k hd).1; omega)
  have hsz := x.sz
  have lo : ∀ k, k < w.heap.size + 6 → W'.heap[k]? = W.heap[k]? := fun k hk => hf.block k (by omega) (fun hd => by have := ((x.sd s hs).lt k hd).1; omega)
  have hnew : ∀ t, t < 2 → ∀ k, k < W.heap.size → (∀ u, u < 2 → ¬ D u k) → ¬ upd D s D' t k := fun t ht k hk hn hd => by
    by_cases hts : t = s
    · subst hts
      rw [upd_same] at hd
      exact hn t ht (hD' k hk hd)
    · rw [upd_other _ _ hts] at hd
      exact hn t ht hd
  exact {
    bel := x.bel.trans ⟨hf.os, hf.tape, hf.output, hf.size, fun k hk => lo k (by omega)⟩
    rl := (lo _ (by omega)).trans x.rl
    pt := (lo _ (by omega)).trans x.pt
    hd := (lo _ (by omega)).trans x.hd
    en := (lo _ (by omega)).trans x.en
    sd := fun t ht => by
      by_cases hts : t = s
      · subst hts
        rw [upd_same, upd_same, upd_same]
        exact hsd
      · rw [upd_other _ _ hts, upd_other _ _ hts, upd_other _ _ hts]
        exact (x.sd t ht).fr hf (fun k hk => x.dis ht hs hts k hk)
    hr := fun t ht => by
      rcases Nat.eq_zero_or_pos (h t).length with h0 | h0
      · intro hp
        omega
      · exact ((x.hr t ht).fr hf (fun k hk => (x.hn t ht h0 k hk).2.2 s hs)).mono hf.size
    hn := fun t ht h0 k hk => ⟨(x.hn t ht h0 k hk).1, Nat.lt_of_lt_of_le (x.hn t ht h0 k hk).2.1 hf.size, fun u hu => hnew u hu k (x.hn t ht h0 k hk).2.1 (x.hn t ht h0 k hk).2.2⟩
    hk := x.hk
    hl := x.hl
    dd := fun k h0 h1 => by
      rcases (show s = 0 ∨ s = 1 by omega) with rfl | rfl
      · rw [upd_same] at h0
        rw [upd_other _ _ (by omega)] at h1
        have := ((x.sd 1 (by omega)).lt k h1).2
        exact x.dd k (hD' k this h0) h1
      · rw [upd_same] at h1
        rw [upd_other _ _ (by omega)] at h0
        have := ((x.sd 0 (by omega)).lt k h0).2
        exact x.dd k h0 (hD' k this h1)
    ke := x.ke.fr hf (fun k hk => x.kn k hk s hs)
    kn := fun k hk t ht => hnew t ht k (x.ke.lt k hk).2 (x.kn k hk)
    po := fun z hz => (x.po z hz).fr hf (fun k hk => x.pn z hz k hk s hs)
    pn := fun z hz k hk t ht => hnew t ht k ((x.po z hz).lt k hk).2 (x.pn z hz k hk)
    di := x.di
    pl := x.pl
    jl := x.jl }
/-- Further lists are kept. -/
theorem GsI.app (x : GsI w ru T J p e ea g h A c D zs AK cK W) {A' : Option Addr} {c' : Nat} {ys : List Pt} {J' : Nat} (hat : AppAt W W' AK A') (ho : Own W' (w.heap.size + 6) 24 1 A' (zs.length + ys.length) c' (zs.map Pt.v ++ ys.map Pt.v))
    (hy : ∀ z ∈ ys, Own W (w.heap.size + 6) 5 1 z.A z.l.length z.c (u8s z.l)) (hyn : ∀ z ∈ ys, ∀ k, blockOf z.A = some k → ∀ t, t < 2 → ¬ D t k) (hyd : ys.Pairwise fun x y => Dis x.A y.A) (hyz : ∀ z ∈ zs, ∀ y ∈ ys, Dis z.A y.A) (hyl : ∀ z ∈ ys, z.l.length ≤ 1048576) (hJ : zs.length + ys.length ≤ J') :
    GsI w ru T J' p e ea g h A c D (zs ++ ys) A' c' W' := by
  have hf : Fr (fun k => blockOf AK = some k) W W' := Fr.of_grown hat.grown
  have hsz := x.sz
  have lo : ∀ k, k < w.heap.size + 6 → W'.heap[k]? = W.heap[k]? := fun k hk => hf.block k (by omega) (fun hd => by have := (x.ke.lt k hd).1; omega)
  have hun : ∀ z : Pt, Own W (w.heap.size + 6) 5 1 z.A z.l.length z.c (u8s z.l) → Own W' (w.heap.size + 6) 5 1 z.A z.l.length z.c (u8s z.l) := fun z hz => hat.other hz (x.ke.unlike hz (by decide))
  exact {
    bel := x.bel.trans ⟨hf.os, hf.tape, hf.output, hf.size, fun k hk => lo k (by omega)⟩
    rl := (lo _ (by omega)).trans x.rl
    pt := (lo _ (by omega)).trans x.pt
    hd := (lo _ (by omega)).trans x.hd
    en := (lo _ (by omega)).trans x.en
    sd := fun s hs => (x.sd s hs).fr hf (fun k hk e => x.kn k e s hs hk)
    hr := fun s hs => by
      rcases Nat.eq_zero_or_pos (h s).length with h0 | h0
      · intro hp
        omega
      · exact ((x.hr s hs).fr hf (fun k hk e => x.hk s hs h0 k hk e)).mono hf.size
    hn := fun s hs h0 k hk => ⟨(x.hn s hs h0 k hk).1, Nat.lt_of_lt_of_le (x.hn s hs h0 k hk).2.1 hf.size, (x.hn s hs h0 k hk).2.2⟩
    hk := fun s hs h0 k hk => hat.off (x.hn s hs h0 k hk).2.1 (x.hk s hs h0 k hk)
    hl := x.hl
    dd := x.dd
    ke := by rw [List.length_append, List.map_append]; exact ho
    kn := hat.place (fun k => ∀ t, t < 2 → ¬ D t k) x.kn (fun k hk t ht hd => by have := ((x.sd t ht).lt k hd).2; omega)
    po := fun z hz => by
      rcases List.mem_append.1 hz with hz | hz
      · exact hun z (x.po z hz)
      · exact hun z (hy z hz)
    pn := fun z hz => by
      rcases List.mem_append.1 hz with hz | hz
      · exact x.pn z hz
      · exact hyn z hz
    di := List.pairwise_append.2 ⟨x.di, hyd, hyz⟩
    pl := fun z hz => by
      rcases List.mem_append.1 hz with hz | hz
      · exact x.pl z hz
      · exact hyl z hz
    jl := by rw [List.length_append]; exact hJ }
theorem GsI.cells (x : GsI w ru T J p e ea g h A c D zs AK cK W) {s : Nat} (hs : s < 2) : W.cell? ⟨w.heap.size + 3, s, none⟩ = some (p s) ∧ W.cell? ⟨w.heap.size + 4, s, none⟩ = some (.slice (A s) (h s).length (c s)) ∧ W.cell? ⟨w.heap.size + 5, s, none⟩ = some (.bool (ea s)) ∧
    W.frozen? ⟨w.heap.size + 4, s, none⟩ = false ∧ W.frozen? ⟨w.heap.size + 5, s, none⟩ = false ∧ W.cell? ⟨w.heap.size + 2, s * 3, none⟩ = some (.int .i64 (ru s).1) ∧ W.cell? ⟨w.heap.size + 2, s * 3 + 1, none⟩ = some (.int .i64 (ru s).2.1) ∧ W.cell? ⟨w.heap.size + 2, s * 3 + 2, none⟩ = some (.int .i64 (ru s).2.2) := by
  refine ⟨?_, ?_, ?_, frozen_of_row _ _ s _ _ x.hd, frozen_of_row _ _ s _ _ x.en, ?_, ?_, ?_⟩
  all_goals rcases (show s = 0 ∨ s = 1 by omega) with rfl | rfl
  · exact cell_of_row _ _ 0 _ _ _ x.pt
  · exact cell_of_row _ _ 1 _ _ _ x.pt
  · exact cell_of_row _ _ 0 _ _ _ x.hd
  · exact cell_of_row _ _ 1 _ _ _ x.hd
  · exact cell_of_row _ _ 0 _ _ _ x.en
  · exact cell_of_row _ _ 1 _ _ _ x.en
  · exact cell_of_row _ _ 0 _ _ _ x.rl
  · exact cell_of_row _ _ 3 _ _ _ x.rl
  · exact cell_of_row _ _ 1 _ _ _ x.rl
  · exact cell_of_row _ _ 4 _ _ _ x.rl
  · exact cell_of_row _ _ 2 _ _ _ x.rl
  · exact cell_of_row _ _ 5 _ _ _ x.rl
theorem GsI.setH (x : GsI w ru T J p e ea g h A c D zs AK cK W) {s : Nat} (hs : s < 2) {A' : Option Addr} {l : List Nat} {n c' T' : Nat} (hn : l.length = n) (hr : Byt W W.heap.size A' l) (hb : 0 < l.length → ∀ k, blockOf A' = some k → w.heap.size + 6 ≤ k ∧ k < W.heap.size ∧ (∀ t, t < 2 → ¬ D t k) ∧ blockOf AK ≠ some k) (hT : T ≤ T') (hl : l.length ≤ T' ∧ ∀ b ∈ l, b < 256) :
    GsI w ru T' J p e ea g (upd h s l) (upd A s A') (upd c s c') D zs AK cK (W.setCell ⟨w.heap.size + 4, s, none⟩ (.slice A' n c')) := by
  have hf := Fr.setCell W ⟨w.heap.size + 4, s, none⟩ (.slice A' n c')
  have hsz := x.sz
  have lo : ∀ k, k ≠ w.heap.size + 4 → (W.setCell ⟨w.heap.size + 4, s, none⟩ (.slice A' n c')).heap[k]? = W.heap[k]? := fun k hk => heap_setCell_other W _ k _ hk
  have hD : ∀ t, t < 2 → ∀ k, D t k → ¬ (k = w.heap.size + 4) := fun t ht k hd e => by have := ((x.sd t ht).lt k hd).1; omega
  subst hn
  exact {
    bel := x.bel.trans ⟨hf.os, hf.tape, hf.output, hf.size, fun k hk => lo k (by omega)⟩
    rl := (lo _ (by omega)).trans x.rl
    pt := (lo _ (by omega)).trans x.pt
    hd := by
      have := heap_setCell_same W _ s _ _ (.slice A' l.length c') x.hd
      rcases (show s = 0 ∨ s = 1 by omega) with rfl | rfl
      · rw [upd_same, upd_same, upd_same, upd_other _ _ (show 1 ≠ 0 by omega), upd_other _ _ (show 1 ≠ 0 by omega), upd_other _ _ (show 1 ≠ 0 by omega)]
        exact this
      · rw [upd_same, upd_same, upd_same, upd_other _ _ (show 0 ≠ 1 by omega), upd_other _ _ (show 0 ≠ 1 by omega), upd_other _ _ (show 0 ≠ 1 by omega)]
        exact this
    en := (lo _ (by omega)).trans x.en
    sd := fun t ht => (x.sd t ht).fr hf (hD t ht)
    hr := fun t ht => by
      by_cases hts : t = s
      · subst hts
        rw [upd_same, upd_same]
        rcases Nat.eq_zero_or_pos l.length with h0 | h0
        · intro hp
          omega
        · exact (hr.fr hf (fun k hk e => by have := (hb h0 k hk).1; simp only at e; omega)).mono hf.size
      · rw [upd_other _ _ hts, upd_other _ _ hts]
        rcases Nat.eq_zero_or_pos (h t).length with h0 | h0
        · intro hp
          omega
        · exact ((x.hr t ht).fr hf (fun k hk e => by have := (x.hn t ht h0 k hk).1; simp only at e; omega)).mono hf.size
    hn := fun t ht h0 k hk => by
      by_cases hts : t = s
      · subst hts
        rw [upd_same] at h0 hk
        obtain ⟨b1, b2, b3, _⟩ := hb h0 k hk
        exact ⟨b1, Nat.lt_of_lt_of_le b2 hf.size, b3⟩
      · rw [upd_other _ _ hts] at h0 hk
        obtain ⟨b1, b2, b3⟩ := x.hn t ht h0 k hk
        exact ⟨b1, Nat.lt_of_lt_of_le b2 hf.size, b3⟩
    hk := fun t ht h0 k hk => by
      by_cases hts : t = s
      · subst hts
        rw [upd_same] at h0 hk
        exact (hb h0 k hk).2.2.2
      · rw [upd_other _ _ hts] at h0 hk
        exact x.hk t ht h0 k hk
    hl := fun t ht => by
      by_cases hts : t = s
      · subst hts
        rw [upd_same]
        exact hl
      · rw [upd_other _ _ hts]
        exact ⟨Nat.le_trans (x.hl t ht).1 hT, (x.hl t ht).2⟩
    dd := x.dd
    ke := x.ke.fr hf (fun k hk e => by have := (x.ke.lt k hk).1; simp only at e; omega)
    kn := x.kn
    po := fun z hz => (x.po z hz).fr hf (fun k hk e => by have := ((x.po z hz).lt k hk).1; simp only at e; omega)
    pn := x.pn
    di := x.di
    pl := x.pl
    jl := x.jl }
/-- A Cutter is ended: what it holds, its pointer's mark. -/
theorem GsI.setE (x : GsI w ru T J p e ea g h A c D zs AK cK W) {s : Nat} (hs : s < 2) (e' : Bool) :
    GsI w ru T J p e (upd ea s e') g h A c D zs AK cK (W.setCell ⟨w.heap.size + 5, s, none⟩ (.bool e')) := by
  have hf := Fr.setCell W ⟨w.heap.size + 5, s, none⟩ (.bool e')
  have hsz := x.sz
  have lo : ∀ k, k ≠ w.heap.size + 5 → (W.setCell ⟨w.heap.size + 5, s, none⟩ (.bool e')).heap[k]? = W.heap[k]? := fun k hk => heap_setCell_other W _ k _ hk
  have hD : ∀ t, t < 2 → ∀ k, D t k → ¬ (k = w.heap.size + 5) := fun t ht k hd e => by have := ((x.sd t ht).lt k hd).1; omega
  exact {
    bel := x.bel.trans ⟨hf.os, hf.tape, hf.output, hf.size, fun k hk => lo k (by omega)⟩
    rl := (lo _ (by omega)).trans x.rl
    pt := (lo _ (by omega)).trans x.pt
    hd := (lo _ (by omega)).trans x.hd
    en := by
      have := heap_setCell_same W _ s _ _ (.bool e') x.en
      rcases (show s = 0 ∨ s = 1 by omega) with rfl | rfl
      · rw [upd_same, upd_other _ _ (show 1 ≠ 0 by omega)]
        exact this
      · rw [upd_same, upd_other _ _ (show 0 ≠ 1 by omega)]
        exact this
    sd := fun t ht => (x.sd t ht).fr hf (hD t ht)
    hr := fun t ht => by
      rcases Nat.eq_zero_or_pos (h t).length with h0 | h0
      · intro hp
        omega
      · exact ((x.hr t ht).fr hf (fun k hk e => by have := (x.hn t ht h0 k hk).1; simp only at e; omega)).mono hf.size
    hn := fun t ht h0 k hk => ⟨(x.hn t ht h0 k hk).1, Nat.lt_of_lt_of_le (x.hn t ht h0 k hk).2.1 hf.size, (x.hn t ht h0 k hk).2.2⟩
    hk := x.hk
    hl := x.hl
    dd := x.dd
    ke := x.ke.fr hf (fun k hk e => by have := (x.ke.lt k hk).1; simp only at e; omega)
    kn := x.kn
    po := fun z hz => (x.po z hz).fr hf (fun k hk e => by have := ((x.po z hz).lt k hk).1; simp only at e; omega)
    pn := x.pn
    di := x.di
    pl := x.pl
    jl := x.jl }
/-- A new Cutter is laid in its place. -/
theorem GsI.setP (x : GsI w ru T J p e ea g h A c D zs AK cK W) {s : Nat} (hs : s < 2) {p' : Value} {e' : Bool} {g' : List Nat} {D' : Nat → Prop} (hsd : Side W (w.heap.size + 6) (ru s) p' e' g' D') (hn : ∀ k, D' k → (∀ t, t < 2 → ¬ D t k) ∧ (∀ t, t < 2 → 0 < (h t).length → blockOf (A t) ≠ some k) ∧ blockOf AK ≠ some k ∧ ∀ z ∈ zs, blockOf z.A ≠ some k) :
    GsI w ru T J (upd p s p') (upd e s e') ea (upd g s g') h A c (upd D s D') zs AK cK (W.setCell ⟨w.heap.size + 3, s, none⟩ p') := by
  have hf := Fr.setCell W ⟨w.heap.size + 3, s, none⟩ p'
  have hsz := x.sz
  have lo : ∀ k, k ≠ w.heap.size + 3 → (W.setCell ⟨w.heap.size + 3, s, none⟩ p').heap[k]? = W.heap[k]? := fun k hk => heap_setCell_other W _ k _ hk
  have hD : ∀ t, t < 2 → ∀ k, D t k → ¬ (k = w.heap.size + 3) := fun t ht k hd e => by have := ((x.sd t ht).lt k hd).1; omega
  have hD' : ∀ k, D' k → ¬ (k = w.heap.size + 3) := fun k hd e => by have := (hsd.lt k hd).1; omega
  have hup : ∀ k, (∀ t, t < 2 → ¬ D t k) → ¬ D' k → ∀ t, t < 2 → ¬ upd D s D' t k := fun k h1 h2 t ht hd => by
    by_cases hts : t = s
    · subst hts
      rw [upd_same] at hd
      exact h2 hd
    · rw [upd_other _ _ hts] at hd
      exact h1 t ht hd
  exact {
    bel := x.bel.trans ⟨hf.os, hf.tape, hf.output, hf.size, fun k hk => lo k (by omega)⟩
    rl := (lo _ (by omega)).trans x.rl
    pt := by
      have := heap_setCell_same W _ s _ _ p' x.pt
      rcases (show s = 0 ∨ s = 1 by omega) with rfl | rfl
      · rw [upd_same, upd_other _ _ (show 1 ≠ 0 by omega)]
        exact this
      · rw [upd_same, upd_other _ _ (show 0 ≠ 1 by omega)]
        exact this
    hd := (lo _ (by omega)).trans x.hd
    en := (lo _ (by omega)).trans x.en
    sd := fun t ht => by
      by_cases hts : t = s
      · subst hts
        rw [upd_same, upd_same, upd_same, upd_same]
        exact hsd.fr hf hD'
      · rw [upd_other _ _ hts, upd_other _ _ hts, upd_other _ _ hts, upd_other _ _ hts]
        exact (x.sd t ht).fr hf (hD t ht)
    hr := fun t ht => by
      rcases Nat.eq_zero_or_pos (h t).length with h0 | h0
      · intro hp
        omega
      · exact ((x.hr t ht).fr hf (fun k hk e => by have := (x.hn t ht h0 k hk).1; simp only at e; omega)).mono hf.size
    hn := fun t ht h0 k hk => ⟨(x.hn t ht h0 k hk).1, Nat.lt_of_lt_of_le (x.hn t ht h0 k hk).2.1 hf.size, hup k (x.hn t ht h0 k hk).2.2 (fun hd => (hn k hd).2.1 t ht h0 hk)⟩
    hk := x.hk
    hl := x.hl
    dd := fun k h0 h1 => by
      rcases (show s = 0 ∨ s = 1 by omega) with rfl | rfl
      · rw [upd_same] at h0
        rw [upd_other _ _ (by omega)] at h1
        exact (hn k h0).1 1 (by omega) h1
      · rw [upd_same] at h1
        rw [upd_other _ _ (by omega)] at h0
        exact (hn k h1).1 0 (by omega) h0
    ke := x.ke.fr hf (fun k hk e => by have := (x.ke.lt k hk).1; simp only at e; omega)
    kn := fun k hk => hup k (x.kn k hk) (fun hd => (hn k hd).2.2.1 hk)
    po := fun z hz => (x.po z hz).fr hf (fun k hk e => by have := ((x.po z hz).lt k hk).1; simp only at e; omega)
    pn := fun z hz k hk => hup k (x.pn z hz k hk) (fun hd => (hn k hd).2.2.2 z hz hk)
    di := x.di
    pl := x.pl
    jl := x.jl }
theorem GsI.frozenP (x : GsI w ru T J p e ea g h A c D zs AK cK W) (s : Nat) : W.frozen? ⟨w.heap.size + 3, s, none⟩ = false := frozen_of_row _ _ s _ _ x.pt
end
theorem Cutr.base {w : World} {B B' bc : Nat} {a m x : Int} {A : Option Addr} {n c : Nat} {held : List Nat} {S : Nat} (h : Cutr w B bc a m x A n c held S) (hB : B' ≤ B) : Cutr w B' bc a m x A n c held S :=
  ⟨h.ok, h.cell, h.own.base hB, h.tst, h.scan, h.hA, h.hS, h.hAS, Nat.le_trans hB h.bB, Nat.le_trans hB h.bS⟩
end Go.Proofs.YtnjbpacnmiimlaaDoor

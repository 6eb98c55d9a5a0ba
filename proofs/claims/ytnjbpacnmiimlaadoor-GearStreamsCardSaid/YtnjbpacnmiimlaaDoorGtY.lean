/- GearStreams: Write, End and Held on one of the two Cutters. -/
import Derived.Test.YtnjbpacnmiimlaaDoorGtG
namespace Go.Proofs.YtnjbpacnmiimlaaDoor
open Go.RowKit

theorem gputs_len {a m x : Int} (l : List Nat) (s : List (List Nat) × List Nat) : (Gear.puts a m x s l).1.length ≤ s.1.length + l.length ∧ (Gear.puts a m x s l).2.length ≤ s.2.length + l.length := by
  induction l generalizing s with
  | nil => simp [Gear.puts]
  | cons b t ih =>
    rw [Gear.puts]
    have h := ih (Gear.put1 a m x s b)
    by_cases he : Gear.ends a m x (s.2.length + 1) (Gear.roll (Gear.rolls s.2) b) = true
    · rw [Gear.put1_hit he] at h ⊢
      simp only [List.length_append, List.length_cons, List.length_nil] at h ⊢
      omega
    · rw [Gear.put1_miss he] at h ⊢
      simp only [List.length_append, List.length_cons, List.length_nil] at h ⊢
      omega
theorem upd_self {α : Type} (f : Nat → α) (s : Nat) : upd f s (f s) = f := by
  funext t
  unfold upd
  split
  · next h => rw [h]
  · rfl
theorem upd_to {α : Type} (f : Nat → α) (s : Nat) {v : α} (h : f s = v) : upd f s v = f := by rw [← h, upd_self]
def SideD (W : World) (B : Nat) (r : Rul) (p : Value) (nb e : Bool) (kW : Int) (g : List Nat) (D : Nat → Prop) : Prop :=
  (kW = 0 ∧ nb = false ∧ e = false ∧ SideL W B r p g D) ∨ (kW ≠ 0 ∧ SideS W B r p e kW g D ∧ e = !nb)
/-- A piece stands in no Cutter's way. -/
def Out2 (D : Nat → Nat → Prop) (A : Option Addr) : Prop := ∀ k, blockOf A = some k → ∀ t, t < 2 → ¬ D t k
section
variable {w : World} {ru : Nat → Rul} {T J : Nat} {p : Nat → Value} {e ea : Nat → Bool} {g h : Nat → List Nat} {A : Nat → Option Addr} {c : Nat → Nat} {D : Nat → Nat → Prop} {ks : List Pt} {AK : Option Addr} {cK : Nat} {W W' : World}
theorem SideD.fr {B : Nat} {r : Rul} {p : Value} {nb e : Bool} {kW : Int} {g : List Nat} {D Dx : Nat → Prop} (h : SideD W B r p nb e kW g D) (hf : Fr Dx W W') (hD : ∀ k, D k → ¬ Dx k) : SideD W' B r p nb e kW g D := by
  rcases h with ⟨h0, h1, h2, bc, A, n, c, S, hp, hc, rfl⟩ | ⟨h0, ⟨hg, h⟩, h2⟩
  · exact .inl ⟨h0, h1, h2, bc, A, n, c, S, hp, hc.fr hf hD, rfl⟩
  · refine .inr ⟨h0, ⟨hg, ?_⟩, h2⟩
    rcases h with h | ⟨bc, S, hp, hk, he, ho, hB, rfl⟩
    · exact .inl h
    · exact .inr ⟨bc, S, hp, hk, he, (hf.block bc (lt_of_block ho) (hD bc rfl)).trans ho, hB, rfl⟩
theorem GsI.out2 (x : GsI w ru T J p e ea g h A c D ks AK cK W) {s : Nat} (hs : s < 2) {D' : Nat → Prop} {A1 : Option Addr} (h1 : ∀ k, blockOf A1 = some k → W.heap.size ≤ k ∧ ¬ D' k) : Out2 (upd D s D') A1 := fun k hk t ht hd => by
  obtain ⟨h2, h3⟩ := h1 k hk
  by_cases hts : t = s
  · subst hts
    rw [upd_same] at hd
    exact h3 hd
  · rw [upd_other _ _ hts] at hd
    exact (x.far h2).1 t ht hd
/-- What Write tells, and what stands after it. -/
def WrS (w : World) (ru : Nat → Rul) (T J : Nat) (p : Nat → Value) (e ea : Nat → Bool) (g h : Nat → List Nat) (A : Nat → Option Addr) (c : Nat → Nat) (D : Nat → Nat → Prop) (ks : List Pt) (AK : Option Addr) (cK : Nat) (W : World) (s : Nat) (kW : Int) (lh l : List Nat) (en : Ending) (w' : World) : Prop :=
  ∃ (Ao : Option Addr) (co : Nat) (zs : List Pt) (D' : Nat → Prop) (g' : List Nat), en = .returned (.tuple #[.slice Ao zs.length co, .int .i64 kW]) ∧ GsI w ru T J p e ea (upd g s g') h A c (upd D s D') ks AK cK w' ∧ Fr (D s) W w' ∧ Own w' W.heap.size 24 1 Ao zs.length co (zs.map Pt.v) ∧
    (∀ z ∈ zs, Own w' W.heap.size 5 1 z.A z.l.length z.c (u8s z.l)) ∧ (zs.Pairwise fun x y => Dis x.A y.A) ∧ Out2 (upd D s D') Ao ∧ (∀ z ∈ zs, Out2 (upd D s D') z.A) ∧ (∀ k, k < W.heap.size → ¬ D s k → ¬ D' k) ∧
    zs.length ≤ l.length ∧ ((kW = 0 ∧ (zs.map Pt.l, g') = Gear.whole (ru s).1 (ru s).2.1 (ru s).2.2 (lh ++ l)) ∨ (kW ≠ 0 ∧ zs = [] ∧ g' = [] ∧ lh = []))
theorem write_side (x : GsI w ru T J p e ea g h A c D ks AK cK W) {s : Nat} (hs : s < 2) {nb : Bool} {kW : Int} {lh l : List Nat} {Al : Option Addr} {L cl : Nat} (hg : g s = lh) (hsd : SideD W (w.heap.size + 6) (ru s) (p s) nb (e s) kW lh (D s)) (hlen : l.length = L) (hl : ∀ b ∈ l, b < 256) (hb : lh.length + L ≤ 4194304) (hr : Byt W W.heap.size Al l) (hAl : 0 < L → ∀ k, blockOf Al = some k → ∀ t, t < 2 → ¬ D t k) (hT : Tz w) :
    Calls Tryd.prog 24 #[p s, .slice Al L cl] W fun en w' => WrS w ru T J p e ea g h A c D ks AK cK W s kW lh l en w' := by
  rcases hsd with ⟨rfl, rfl, he, bc, A1, n1, c1, S1, hp, hcu, hD⟩ | ⟨hk, ⟨hg0, hsh⟩, _⟩
  · rw [hp]
    have hn1 : lh.length = n1 := by have := hcu.own.len; simpa [u8s] using this
    have hDd : ∀ k, Dirty bc A1 S1 k ↔ D s k := fun k => by rw [hD]
    refine (write_o (w.heap.size + 6) bc _ _ _ A1 n1 c1 lh S1 l Al cl L W hcu hlen hl (by omega) hr (fun h0 k hk hd => hAl h0 k hk s hs ((hDd k).1 hd)) (hT.below x.bel) (fun k hk e => ?_)).mono ?_
    · have h1 := ((x.sd s hs).lt k ((hDd k).1 hk)).1
      have h2 := World.block_lt_of_cell? _ _ (hT 0 (by decide))
      simp only at h2
      omega
    · rintro en w' ⟨Ao, co, zs, A', n', c', S', rfl, hz, hn', hsc, hst⟩
      have cu := hst.st.cu
      have hcu' : Cutr w' (w.heap.size + 6) bc (ru s).1 (ru s).2.1 (ru s).2.2 A' n' c' (Gear.puts (ru s).1 (ru s).2.1 (ru s).2.2 ([], lh) l).2 S' := ⟨cu.ok, cu.cell, cu.own, cu.tst, hsc, cu.hA, cu.hS, cu.hAS, cu.bB, cu.bS⟩
      have hfr : Fr (D s) W w' := by rw [hD]; exact hst.st.fr
      have hdirt : ∀ k, k < W.heap.size → Dirty bc A' S' k → D s k := fun k hk hd => (hDd k).1 (hst.st.dirt k hk hd)
      have y := x.turn hs hfr (e' := e s) (.inl ⟨he, bc, A', n', c', S', hp, hcu', rfl⟩) hdirt
      rw [upd_self] at y
      refine ⟨Ao, co, zs, _, _, rfl, y, hfr, hst.st.out, hst.po, hst.di, x.out2 hs fun k hk => ⟨(hst.st.out.lt k hk).1, hst.st.outD k hk⟩, fun z hz => x.out2 hs fun k hk => ⟨((hst.st.pcs z hz).2 k hk).1, ((hst.st.pcs z hz).2 k hk).2.2.1⟩, fun k hk h1 h2 => h1 (hdirt k hk h2), ?_, .inl ⟨rfl, ?_⟩⟩
      · have h1 := congrArg List.length hz
        have h2 := (gputs_len (a := (ru s).1) (m := (ru s).2.1) (x := (ru s).2.2) l ([], lh)).1
        rw [List.length_map] at h1
        simp only [List.length_nil, Nat.zero_add] at h2
        omega
      · rw [Gear.whole_held hcu.ok hcu.scan, hz]
  · have hu : Calls Tryd.prog 36 #[p s] W fun e w' => e = .returned (.int .i64 kW) ∧ W = w' := by
      rcases hsh with ⟨hp, rfl, _, _⟩ | ⟨bc, S, hp, rfl, _, ho, _, _⟩
      · rw [hp]
        exact usable_nil W
      · rw [hp]
        exact usable_over W ho
    refine (write_shut W (p s) kW hk Al L cl hu).mono ?_
    rintro en w' ⟨rfl, rfl⟩
    refine ⟨none, 0, [], D s, [], rfl, ?_, Fr.refl _ _, Own.nil _ _ _ _, by simp, List.Pairwise.nil, fun k hk => (by cases hk), by simp, fun _ _ h => h, by simp, .inr ⟨hk, rfl, rfl, hg0⟩⟩
    rw [upd_self, upd_to g s (hg.trans hg0)]
    exact x
/-- What End tells, and what stands after it. -/
def EnS (w : World) (ru : Nat → Rul) (T J : Nat) (p : Nat → Value) (e ea : Nat → Bool) (g h : Nat → List Nat) (A : Nat → Option Addr) (c : Nat → Nat) (D : Nat → Nat → Prop) (ks : List Pt) (AK : Option Addr) (cK : Nat) (W : World) (s : Nat) (nb : Bool) (kW : Int) (lh : List Nat) (en : Ending) (w' : World) : Prop :=
  ∃ (Ao : Option Addr) (co : Nat) (D' : Nat → Prop), en = .returned (.tuple #[.slice Ao lh.length co, .int .i64 kW]) ∧ GsI w ru T J p (upd e s (!nb)) ea (upd g s []) h A c (upd D s D') ks AK cK w' ∧ Fr (D s) W w' ∧ Own w' W.heap.size 5 1 Ao lh.length co (u8s lh) ∧ Out2 (upd D s D') Ao ∧ (kW ≠ 0 → lh = [])
theorem end_side (x : GsI w ru T J p e ea g h A c D ks AK cK W) {s : Nat} (hs : s < 2) {nb : Bool} {kW : Int} {lh : List Nat} (hg : g s = lh) (hsd : SideD W (w.heap.size + 6) (ru s) (p s) nb (e s) kW lh (D s)) (hb : lh.length ≤ 4194304) :
    Calls Tryd.prog 25 #[p s] W fun en w' => EnS w ru T J p e ea g h A c D ks AK cK W s nb kW lh en w' := by
  rcases hsd with ⟨rfl, rfl, he, bc, A1, n1, c1, S1, hp, hcu, hD⟩ | ⟨hk, ⟨hg0, hsh⟩, hen⟩
  · rw [hp]
    have hn1 : lh.length = n1 := by have := hcu.own.len; simpa [u8s] using this
    have hDd : ∀ k, Dirty bc A1 S1 k ↔ D s k := fun k => by rw [hD]
    refine (end_any (w.heap.size + 6) bc _ _ _ A1 n1 c1 lh S1 W hcu (by omega)).mono ?_
    rintro en w' ⟨A', c', rfl, ho, hf, hro⟩
    have hlt : bc < W.heap.size := lt_of_block hcu.cell
    have hfr : Fr (D s) W w' := hf.mono fun k _ e => (hDd k).1 (.inl e)
    have y := x.turn hs hfr (e' := true) (g' := []) (D' := fun k => k = bc) (.inr ⟨3, rfl, .inr ⟨bc, S1, hp, rfl, rfl, hro, hcu.bB, rfl⟩⟩) (fun k _ e => (hDd k).1 (.inl e))
    subst hn1
    refine ⟨A', c', fun k => k = bc, rfl, y, hfr, ho, x.out2 hs fun k hk => ⟨(ho.lt k hk).1, fun e => by have := (ho.lt k hk).1; omega⟩, fun h0 => absurd rfl h0⟩
  · have hu : Calls Tryd.prog 36 #[p s] W fun e w' => e = .returned (.int .i64 kW) ∧ W = w' := by
      rcases hsh with ⟨hp, rfl, _, _⟩ | ⟨bc, S, hp, rfl, _, ho, _, _⟩
      · rw [hp]
        exact usable_nil W
      · rw [hp]
        exact usable_over W ho
    refine (end_shut W (p s) kW hk hu).mono ?_
    rintro en w' ⟨rfl, rfl⟩
    subst hg0
    refine ⟨none, 0, D s, rfl, ?_, Fr.refl _ _, Own.nil _ _ _ _, fun k hk => (by cases hk), fun _ => rfl⟩
    rw [upd_self, upd_to g s hg, upd_to e s hen]
    exact x
theorem held_side {s : Nat} {nb : Bool} {kW : Int} {lh : List Nat} (hsd : SideD W (w.heap.size + 6) (ru s) (p s) nb (e s) kW lh (D s)) :
    Calls Tryd.prog 29 #[p s] W fun en w' => en = .returned (.int .i64 (lh.length : Nat)) ∧ W = w' := by
  rcases hsd with ⟨rfl, rfl, he, bc, A1, n1, c1, S1, hp, hcu, hD⟩ | ⟨hk, ⟨hg0, hsh⟩, hen⟩
  · rw [hp]
    have hn1 : lh.length = n1 := by have := hcu.own.len; simpa [u8s] using this
    rw [hn1]
    exact held_some W hcu.cells.2.2.2.1
  · subst hg0
    rcases hsh with ⟨hp, rfl, _, _⟩ | ⟨bc, S, hp, rfl, _, ho, _, _⟩
    · rw [hp]
      exact held_nil W
    · rw [hp]
      exact held_some W (cell_of_row W bc 3 _ _ _ ho)
end
end Go.Proofs.YtnjbpacnmiimlaaDoor

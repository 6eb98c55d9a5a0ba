/- FrameExact: the document's All. -/
import Derived.Test.YtjofpjioaiamhaaFxMk
import Derived.Test.YtjofpjioaiamhaaEnd
namespace Go.Proofs.Ytjofpjioaiamhaa
open Go.RowKit

/-- Rows of unlike elements lie in unlike blocks. -/
theorem Own.unlike {w : World} {B B2 e e2 size size2 n n2 c c2 : Nat} {A A2 : Option Addr} {xs ys : List Value} (h : Own w B e size A n c xs) (h2 : Own w B2 e2 size2 A2 n2 c2 ys) (he : e ≠ e2) : Dis A A2 := by
  intro k hk hk2
  rcases h.2 with ⟨hv, _⟩ | ⟨g, cap, cur, hv, _, hh, _⟩
  · injection hv with h1
    rw [h1] at hk
    cases hk
  · rcases h2.2 with ⟨hv2, _⟩ | ⟨g2, cap2, cur2, hv2, _, hh2, _⟩
    · injection hv2 with h1
      rw [h1] at hk2
      cases hk2
    · injection hv with h1
      injection hv2 with h3
      rw [h1] at hk
      rw [h3] at hk2
      have e1 : g = k := by injection hk
      have e2' : g2 = k := by injection hk2
      subst e1
      subst e2'
      rw [hh] at hh2
      injection hh2 with hh2
      injection hh2 with _ h4
      exact he h4
theorem elRec : ElemOk Try.prog 58 61 (.agg #[.int .i64 0, .slice none 0 0]) 2 32 := ⟨Try.underlying58, by kernel_rfl, by simp [Value.cells], by decide⟩
def recsL (xs : List Rec) : List Value := xs.flatMap fun x => (recV x).toList
theorem recsL_snoc (xs : List Rec) (x : Rec) : recsL (xs ++ [x]) = recsL xs ++ (recV x).toList := by simp [recsL]
theorem recsL_at (xs : List Rec) {i : Nat} {x : Rec} (h : xs[i]? = some x) : (recsL xs)[i * 2]? = some (.int .i64 (x.1 : Nat)) ∧ (recsL xs)[i * 2 + 1]? = some (.slice x.2.2.1 x.2.1.length x.2.2.2) := by
  induction xs generalizing i with
  | nil => simp at h
  | cons y r ih =>
    cases i with
    | zero =>
      simp at h
      subst h
      exact ⟨rfl, rfl⟩
    | succ i =>
      have h1 := ih (i := i) (by simpa using h)
      have e : recsL (y :: r) = .int .i64 (y.1 : Nat) :: .slice y.2.2.1 y.2.1.length y.2.2.2 :: recsL r := rfl
      rw [e, show (i + 1) * 2 = i * 2 + 1 + 1 by omega, show i * 2 + 1 + 1 + 1 = (i * 2 + 1) + 1 + 1 by omega]
      simp only [List.getElem?_cons_succ]
      exact h1
/-- What stands while All goes on. -/
structure AllI (l : List Nat) (w : World) (xs : List Rec) (p : Nat) (A : Option Addr) (c : Nat) (W : World) : Prop where
  recs : Recs l (xs.map Rec.pr) p
  own : Own W w.heap.size 61 2 A xs.length c (recsL xs)
  bod : ∀ x ∈ xs, Own W w.heap.size 5 1 x.2.2.1 x.2.1.length x.2.2.2 (u8s x.2.1)
  bel : Below w.heap.size w W

set_option maxRecDepth 20000 in
set_option maxHeartbeats 2000000 in
theorem all2_any (l : List Nat) (A : Option Addr) (n c B : Nat) (w : World) (hl : ∀ b ∈ l, b < 256) (hn : l.length = n) (hnm : n ≤ 1099511627776) (hB : B ≤ w.heap.size) (h : Byt w B A l) :
    Calls Try.prog 33 #[.slice A n c] w fun e w' => ∃ (xs : List Rec) (A' : Option Addr) (c' : Nat), e = .returned (.slice A' xs.length c') ∧ xs.map Rec.pr = allL l ∧ Own w' w.heap.size 61 2 A' xs.length c' (recsL xs) ∧ (∀ x ∈ xs, Own w' w.heap.size 5 1 x.2.2.1 x.2.1.length x.2.2.2 (u8s x.2.1)) ∧ Below w.heap.size w w' := by
  have hl' := Lib.hid hl
  have hn' := Lib.hid hn
  have h' := Lib.hid h
  clear hl hn h
  go_enter Try.func33, Try.ntmps33
  go_wp2_with fail
  go_loopw [3, 4] (fun s i wr => ∃ (xs : List Rec) (p : Nat) (A : Option Addr) (c m : Nat), p ≤ n ∧ i = .int .i64 p ∧ s = .slice A m c ∧ Hid (xs.length = m) ∧ Hid (AllI l w xs p A c wr)) (fun _ i _ => n - (intOf i).toNat)
  case atStart => exact ⟨[], 0, none, 0, 0, by omega, rfl, rfl, Lib.hid rfl, Lib.hid ⟨.nil, Own.nil _ _ _ _, fun _ h => by simp at h, Below.refl _ _⟩⟩
  case round =>
    obtain ⟨xs, p, A3, c3, m, hp, rfl, rfl, hm', hI⟩ := hrel
    have hu := unpack2_any l (p : Int) A n c B wr hl'.out hn'.out (by omega) (Nat.le_trans hB hI.out.bel.size) (h'.out.below (hI.out.bel.mono hB))
    have e1 : unpL l (p : Int) = unpF (l.drop p) := by
      unfold unpL
      rw [if_neg (by rw [hn'.out]; omega)]
      rfl
    rw [e1] at hu
    have hle := hI.out.recs.le
    rw [List.length_map, hm'.out, hn'.out] at hle
    obtain ⟨_, hm10⟩ := hle
    by_cases he : (unpF (l.drop p)).1 = 0
    · have hs := unpF_size he
      have hrec2 := hI.out.recs.snoc he
      have hdl : (l.drop p).length = n - p := by rw [List.length_drop, hn'.out]
      have hrec2' := Lib.hid hrec2
      rw [hdl] at hs
      have hu' := Lib.hid hu
      clear hrec2 hu e1
      generalize unpF (l.drop p) = r at hs hrec2' hu' he
      obtain ⟨err, size, body⟩ := r
      simp only at hs he
      obtain ⟨rfl, hs2, hs3⟩ := hs
      subst he
      go_wp2_with (first
        | (go_at_call 32; refine hu'.out.mono ?_; rintro e w1 ⟨A1, c1, rfl, o1, hb1⟩; have o1' := Lib.hid (o1.base hI.out.bel.size); have hb1' := Lib.hid hb1; have ho3 : Own w1 w.heap.size 61 2 A3 m c3 (recsL xs) := (hm'.out ▸ hI.out.own.below hb1 (fun k hk => (hI.out.own.lt k hk).2)); have hbw := Lib.hid (hI.out.bel.trans (hb1.mono hI.out.bel.size)); clear o1 hb1)
        | (at_builtin; go_loud (refine wpList_app1 elRec _ #[.int .i64 (p : Int), .slice A1 body.length c1] rfl rfl _ _ rfl rfl ho3 rfl (by intro u hu; simp at hu; rcases hu with rfl | rfl <;> rfl) (by unfold maxLen; omega) (by omega) hbw.out.size (m + 1) rfl _ rfl ?_); intro A' c' w' hown' hat hb'))
      have hbod : Hid (∀ x ∈ xs ++ [((p, body, A1, c1) : Rec)], Own w1 w.heap.size 5 1 x.2.2.1 x.2.1.length x.2.2.2 (u8s x.2.1)) := Lib.hid fun x hx => by
        rcases List.mem_append.1 hx with hx | hx
        · exact (hI.out.bod x hx).below hb1'.out fun k hk => ((hI.out.bod x hx).lt k hk).2
        · simp at hx
          subst hx
          exact o1'.out
      have hbod2 : Hid (∀ x ∈ xs ++ [((p, body, A1, c1) : Rec)], Own w' w.heap.size 5 1 x.2.2.1 x.2.1.length x.2.2.2 (u8s x.2.1)) := Lib.hid fun x hx =>
        hat.other (hbod.out x hx) (ho3.unlike (hbod.out x hx) (by decide))
      go_roundw
      case rel => exact ⟨xs ++ [((p, body, A1, c1) : Rec)], p + (10 + body.length), A', c', m + 1, by omega, by go_num, rfl, Lib.hid (by rw [List.length_append, hm'.out]; rfl), Lib.hid ⟨by rw [List.map_append]; exact hrec2'.out, by rw [recsL_snoc, List.length_append, hm'.out]; exact hown', hbod2.out, hbw.out.trans hb'⟩⟩
      case measure => simp [intOf]; omega
    · have hall := Lib.hid (hI.out.recs.all he).1
      have hu' := Lib.hid hu
      clear hu e1
      generalize unpF (l.drop p) = r at hu' he
      obtain ⟨err, size, body⟩ := r
      simp only at he
      have he1 : ((err : Int) != 0) = true := by simp; omega
      go_wp2_with (go_at_call 32; refine hu'.out.mono ?_; rintro e w1 ⟨A1, c1, rfl, o1, hb1⟩)
      go_ret
      refine ⟨xs, A3, c3, by rw [hm'.out]; rfl, hall.out, hI.out.own.below hb1 (fun k hk => (hI.out.own.lt k hk).2), fun x hx => (hI.out.bod x hx).below hb1 fun k hk => ((hI.out.bod x hx).lt k hk).2, hI.out.bel.trans (hb1.mono hI.out.bel.size)⟩
end Go.Proofs.Ytjofpjioaiamhaa

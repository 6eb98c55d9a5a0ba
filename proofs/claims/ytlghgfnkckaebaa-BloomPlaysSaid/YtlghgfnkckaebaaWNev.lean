/- BloomNever's walk. -/
import Derived.Test.YtlghgfnkckaebaaWNevP
import Derived.Test.YtlghgfnkckaebaaWKeys
import Derived.Test.YtlghgfnkckaebaaWStr
import Derived.Test.YtlghgfnkckaebaaWNew
import Derived.Test.YtlghgfnkckaebaaWTk
import Derived.Deep.RegionHeld3
namespace Go.Proofs.Ytlghgfnkckaebaa
open Go.RowKit
set_option linter.unusedSimpArgs false
set_option linter.unusedVariables false

theorem Flt.apart {w : World} {B g h c B2 g2 h2 c2 : Nat} {A A2 : Option Addr} {l m : List Nat} (f : Flt w B g A c l h) (f2 : Flt w B2 g2 A2 c2 m h2) : blockOf A2 ≠ some g := fun he => by
  obtain ⟨a, cs, e, _, ha⟩ := f2.row.row f2.n1
  rw [e] at he
  injection he with he
  have he : a = g := he
  rw [he, f.blk] at ha
  injection ha with ha
  injection ha with _ ha _
  exact absurd ha (by decide)
/-- Three filters of one shape, apart, in new memory. -/
structure Tri (w0 w : World) (h gf Af cf gg Ag cg gm Am cm : Nat) (lf lg lm : List Nat) : Prop where
  f : Flt w w0.heap.size gf (some ⟨Af, 0, none⟩) cf lf h
  g : Flt w w0.heap.size gg (some ⟨Ag, 0, none⟩) cg lg h
  m : Flt w w0.heap.size gm (some ⟨Am, 0, none⟩) cm lm h
  fg : Af ≠ Ag
  fm : Af ≠ Am
  gm : Ag ≠ Am
  below : Below w0.heap.size w0 w
section
variable {w0 w w' : World} {h gf Af cf gg Ag cg gm Am cm : Nat} {lf lg lm l' : List Nat}
theorem Flt.off {w : World} {B g c h a : Nat} {l : List Nat} (f : Flt w B g (some ⟨a, 0, none⟩) c l h) : B ≤ a := by
  obtain ⟨a', e, hB, _⟩ := f.at
  injection e with e
  injection e with e
  omega
theorem Flt.lt2 {w : World} {B g c h a : Nat} {l : List Nat} (f : Flt w B g (some ⟨a, 0, none⟩) c l h) : a < w.heap.size := by
  obtain ⟨a', e, _, hl, _⟩ := f.at
  injection e with e
  injection e with e
  omega
theorem Flt.keep {w w' : World} {B g c h a B2 g2 c2 h2 a2 : Nat} {l l2 : List Nat} (f : Flt w B g (some ⟨a, 0, none⟩) c l h) (f2 : Flt w B2 g2 (some ⟨a2, 0, none⟩) c2 l2 h2) (hf : Fr (fun k => k = a2) w w') (hne : a ≠ a2) : Flt w' B g (some ⟨a, 0, none⟩) c l h :=
  f.fr hf (fun q => f.apart f2 (by rw [q]; rfl)) (fun k hk q => by injection hk with hk; exact hne (hk.trans q))
theorem Tri.setF (t : Tri w0 w h gf Af cf gg Ag cg gm Am cm lf lg lm) (f : Flt w' w0.heap.size gf (some ⟨Af, 0, none⟩) cf l' h) (r : Fr (fun k => k = Af) w w') : Tri w0 w' h gf Af cf gg Ag cg gm Am cm l' lg lm :=
  ⟨f, t.g.keep t.f r t.fg.symm, t.m.keep t.f r t.fm.symm, t.fg, t.fm, t.gm, t.below.trans (r.below t.below.size (fun k hk q => by have := t.f.off; have q : k = Af := q; omega))⟩
theorem Tri.setG (t : Tri w0 w h gf Af cf gg Ag cg gm Am cm lf lg lm) (f : Flt w' w0.heap.size gg (some ⟨Ag, 0, none⟩) cg l' h) (r : Fr (fun k => k = Ag) w w') : Tri w0 w' h gf Af cf gg Ag cg gm Am cm lf l' lm :=
  ⟨t.f.keep t.g r t.fg, f, t.m.keep t.g r t.gm.symm, t.fg, t.fm, t.gm, t.below.trans (r.below t.below.size (fun k hk q => by have := t.g.off; have q : k = Ag := q; omega))⟩
theorem Tri.setM (t : Tri w0 w h gf Af cf gg Ag cg gm Am cm lf lg lm) (f : Flt w' w0.heap.size gm (some ⟨Am, 0, none⟩) cm l' h) (r : Fr (fun k => k = Am) w w') : Tri w0 w' h gf Af cf gg Ag cg gm Am cm lf lg l' :=
  ⟨t.f.keep t.m r t.fm, t.g.keep t.m r t.gm, f, t.fg, t.fm, t.gm, t.below.trans (r.below t.below.size (fun k hk q => by have := t.m.off; have q : k = Am := q; omega))⟩
theorem Tri.on (t : Tri w0 w h gf Af cf gg Ag cg gm Am cm lf lg lm) (b : Below w.heap.size w w') : Tri w0 w' h gf Af cf gg Ag cg gm Am cm lf lg lm :=
  ⟨t.f.below b, t.g.below b, t.m.below b, t.fg, t.fm, t.gm, t.below.trans (b.mono t.below.size)⟩
end
def setV (bits hashes : Int) (A1 A2 A3 : Option Addr) (n1 c1 n2 c2 n3 c3 : Nat) : Value := .agg #[.int .i64 bits, .int .i64 hashes, .slice A1 n1 c1, .slice A2 n2 c2, .slice A3 n3 c3]
set_option maxRecDepth 20000 in
set_option maxHeartbeats 1000000 in
theorem never_far (w : World) (bits hashes : Int) (A1 A2 A3 : Option Addr) (n1 c1 n2 c2 n3 c3 : Nat) (hb : 16384 < bits) :
    Calls Try.prog 10 #[setV bits hashes A1 A2 A3 n1 c1 n2 c2 n3 c3] w fun e w' => e = .returned (.bool true) ∧ Below w.heap.size w w' := by
  have hB : Hid (Below w.heap.size w (w.alloc (.cells #[.int .i64 bits, .int .i64 hashes, .slice A1 n1 c1, .slice A2 n2 c2, .slice A3 n3 c3] 60))) := Lib.hid ((Below.refl _ _).alloc (Nat.le_refl _) _)
  unfold setV
  go_enter Try.func10, Try.ntmps10
  go_wp2_with fail
  go_ret
  exact ⟨rfl, hB.out⟩
set_option maxRecDepth 20000 in
set_option maxHeartbeats 1000000 in
theorem never_no (w : World) (bits hashes : Int) (A1 A2 A3 : Option Addr) (n1 c1 n2 c2 n3 c3 : Nat) (hb : ¬ 16384 < bits) (hs : ¬ shp bits hashes) :
    Calls Try.prog 10 #[setV bits hashes A1 A2 A3 n1 c1 n2 c2 n3 c3] w fun e w' => e = .returned (.bool true) ∧ Below w.heap.size w w' := by
  have hB : Hid (Below w.heap.size w (w.alloc (.cells #[.int .i64 bits, .int .i64 hashes, .slice A1 n1 c1, .slice A2 n2 c2, .slice A3 n3 c3] 60))) := Lib.hid ((Below.refl _ _).alloc (Nat.le_refl _) _)
  have hn := Lib.hid (fun W => fnew_no hs W)
  have hm := Lib.hid (fun W => refMay_any bits hashes W)
  rw [decide_eq_false hs] at hm
  clear hs
  unfold setV
  go_enter Try.func10, Try.ntmps10
  go_wp2_with (first
    | (go_at_call 23; refine (hn.out _).mono ?_; rintro e w2 ⟨rfl, rfl⟩)
    | (go_at_call 27; refine (hm.out _).mono ?_; rintro e w2 ⟨rfl, rfl⟩))
  go_ret
  exact ⟨rfl, hB.out⟩
end Go.Proofs.Ytlghgfnkckaebaa

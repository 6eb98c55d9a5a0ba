/- Join and Meet. (Printed by tools/genwith.py.) -/
import Derived.Test.YtlghgfnkckaebaaWNo
namespace Go.Proofs.Ytlghgfnkckaebaa
open Go.RowKit
set_option linter.unusedSimpArgs false
set_option linter.unusedVariables false

theorem zip_next (op : Nat → Nat → Nat) : ∀ (l m : List Nat) (k x y : Nat), l[k]? = some x → m[k]? = some y → (List.zipWith op (l.take k) (m.take k) ++ l.drop k).set k (op x y) = List.zipWith op (l.take (k + 1)) (m.take (k + 1)) ++ l.drop (k + 1)
  | a :: l, b :: m, 0, x, y, h1, h2 => by
    simp at h1 h2
    subst h1
    subst h2
    simp
  | a :: l, b :: m, k + 1, x, y, h1, h2 => by
    simp at h1 h2
    have := zip_next op l m k x y h1 h2
    simp [this]
theorem zip_at (op : Nat → Nat → Nat) : ∀ (l m : List Nat) (k x : Nat), l.length = m.length → l[k]? = some x → (List.zipWith op (l.take k) (m.take k) ++ l.drop k)[k]? = some x
  | a :: l, b :: m, 0, x, h, h1 => by simpa using h1
  | a :: l, b :: m, k + 1, x, h, h1 => by
    simp at h1 h
    have := zip_at op l m k x h h1
    simpa using this
theorem zip_len (op : Nat → Nat → Nat) (l m : List Nat) (k : Nat) (h : l.length = m.length) : (List.zipWith op (l.take k) (m.take k) ++ l.drop k).length = l.length := by
  simp
  omega
def joinQ (l m : List Nat) : List Nat := List.zipWith (fun x y => x ||| y) l m
theorem joinQ_length (l m : List Nat) (h : l.length = m.length) : (joinQ l m).length = l.length := by simp [joinQ]; omega
set_option maxRecDepth 20000 in
set_option maxHeartbeats 1000000 in
theorem joinc_any (w : World) (a j x q : Nat) (hx : x < 18446744073709551616) (hq : q < 18446744073709551616)
    (cx : w.cell? ⟨a, j, none⟩ = some (.int .u64 (x : Int))) (fx : w.frozen? ⟨a, j, none⟩ = false) :
    Calls Try.prog 63 #[.pointer (some ⟨a, j, none⟩), .int .u64 (q : Int)] w fun e w' => (∃ v, e = .returned v) ∧ w' = w.setCell ⟨a, j, none⟩ (.int .u64 ((x ||| q : Nat) : Int)) := by
  have e1 := u64_or_nat x q hx hq
  obtain ⟨y, hy⟩ : ∃ y, x ||| q = y := ⟨_, rfl⟩
  rw [hy] at e1 ⊢
  clear hy hx hq
  go_enter Try.func63, Try.ntmps63
  go_wp2_with fail
  go_end0
  exact ⟨⟨_, rfl⟩, rfl⟩
def JoinP (w : World) (B g A0 c h : Nat) (l m : List Nat) (e : Ending) (w' : World) : Prop :=
  e = .returned (.int .i64 0) ∧ Flt w' B g (some ⟨A0, 0, none⟩) c (joinQ l m) h ∧ Fr (fun k => k = A0) w w'
set_option maxRecDepth 20000 in
set_option maxHeartbeats 4000000 in
theorem with_join_any {w : World} {B g c h A0 B2 g2 A2 c2 : Nat} {l m : List Nat} (f : Flt w B g (some ⟨A0, 0, none⟩) c l h) (f2 : Flt w B2 g2 (some ⟨A2, 0, none⟩) c2 m h) (hlm : l.length = m.length) (hA : A2 ≠ A0) (hg : g2 ≠ A0) :
    Calls Try.prog 61 #[.pointer (some ⟨g, 0, none⟩), .pointer (some ⟨g2, 0, none⟩), .func (.func 63) #[] #[]] w (JoinP w B g A0 c h l m) := by
  have ff := Lib.hid f
  have ff2 := Lib.hid f2
  have th := Lib.hid (there_any f)
  have th2 := Lib.hid (there_any f2)
  have hA' := Lib.hid hA
  have hg' := Lib.hid hg
  have nm := f.nm
  have d0 := f.c0
  have d1 := f.c1
  have d2 := f2.c0
  have d3 := f2.c1
  rw [← hlm] at d2
  have hlm' := Lib.hid hlm
  obtain ⟨n, hn⟩ : ∃ n, l.length = n := ⟨_, rfl⟩
  rw [hn] at nm d0 d2
  have hn' := Lib.hid hn
  clear f f2 hA hg hlm hn
  unfold JoinP
  go_enter Try.func61, Try.ntmps61
  go_wp2_with (first
    | (go_at_call 48; refine th.out.mono ?_; rintro e w9 ⟨rfl, rfl⟩; clear th)
    | (go_at_call 48; refine th2.out.mono ?_; rintro e w9 ⟨rfl, rfl⟩; clear th2))
  go_quiet (fail)
  go_wp2_with fail
  clear d0 d1 d2 d3
  go_loopw [45] (fun iv wr => ∃ k : Nat, k ≤ n ∧ iv = .int .i64 (k : Int) ∧ Hid (Flt wr B g (some ⟨A0, 0, none⟩) c (List.zipWith (fun x y => x ||| y) (l.take k) (m.take k) ++ l.drop k) h) ∧ Hid (Fr (fun k => k = A0) w wr)) (fun iv _ => n - (intOf iv).toNat)
  case atStart => exact ⟨0, by omega, rfl, Lib.hid (by simpa using ff.out.below (below_drewN (Below.refl _ _) _)), Lib.hid ((Fr.refl _ _).drewN _)⟩
  case round =>
    obtain ⟨k, hk, rfl, hf, hR⟩ := hrel
    by_cases hlt : k < n
    · obtain ⟨x, hx⟩ : ∃ x, Hid (l[k]? = some x) := ⟨_, Lib.hid (List.getElem?_eq_getElem (by rw [hn'.out]; exact hlt))⟩
      obtain ⟨y, hy⟩ : ∃ y, Hid (m[k]? = some y) := ⟨_, Lib.hid (List.getElem?_eq_getElem (by rw [← hlm'.out, hn'.out]; exact hlt))⟩
      have hx64 : Hid (x < 18446744073709551616) := Lib.hid (ff.out.lt x (List.mem_of_getElem? hx.out))
      have hy64 : Hid (y < 18446744073709551616) := Lib.hid (ff2.out.lt y (List.mem_of_getElem? hy.out))
      have hzl := Lib.hid (zip_len (fun x y => x ||| y) l m k hlm'.out)
      have f2r := Lib.hid (ff2.out.fr hR.out hg'.out (fun k hk q => hA'.out (by injection hk with hk; exact hk.trans q)))
      have d0 := hf.out.c0
      rw [hzl.out, hn'.out] at d0
      have d2 := f2r.out.c0
      rw [← hlm'.out, hn'.out] at d2
      have cx : Hid (wr.cell? ⟨A0, k, none⟩ = some (.int .u64 (x : Int))) := Lib.hid (by
        obtain ⟨A1, e, _, _, _, hc⟩ := hf.out.at
        injection e with e
        injection e with e
        rw [e]
        exact hc k x (zip_at _ _ _ _ _ hlm'.out hx.out))
      have cy : wr.cell? ⟨A2, k, none⟩ = some (.int .u64 (y : Int)) := by
        obtain ⟨A1, e, _, _, _, hc⟩ := f2r.out.at
        injection e with e
        injection e with e
        rw [e]
        exact hc k y hy.out
      have hq64 : Hid (x ||| y < 18446744073709551616) := Lib.hid (by
        have e64 : (2 : Nat) ^ 64 = 18446744073709551616 := by decide
        have q1 : x ||| y < 2 ^ 64 := Nat.or_lt_two_pow (by have := hx64.out; omega) (by have := hy64.out; omega)
        omega)
      have hcl : Hid (∀ i, Calls Try.prog 63 #[.pointer (some ⟨A0, k, none⟩), .int .u64 (y : Int)] (wr.drewN i) fun e w' => (∃ v, e = .returned v) ∧ w' = (wr.drewN i).setCell ⟨A0, k, none⟩ (.int .u64 ((x ||| y : Nat) : Int))) := Lib.hid fun i => joinc_any (wr.drewN i) A0 k x y hx64.out hy64.out cx.out (hf.out.fz k)
      go_wp2_with fail
      go_region_with ((go_at_call 63
                       refine (hcl.out _).mono ?_
                       rintro e w5 ⟨⟨v5, rfl⟩, hw5⟩
                       have hw5' := Lib.hid hw5
                       clear hw5))
      all_goals
        have hs1 := Lib.hid (zip_next (fun x y => x ||| y) l m k x y hx.out hy.out)
        have hf5 : Hid (Flt w5 B g (some ⟨A0, 0, none⟩) c (List.zipWith (fun x y => x ||| y) (l.take (k + 1)) (m.take (k + 1)) ++ l.drop (k + 1)) h) := Lib.hid (by
          rw [hw5'.out, ← hs1.out]
          exact (hf.out.below (below_drewN (Below.refl _ _) _)).put k (x ||| y) (by rw [hzl.out, hn'.out]; exact hlt) hq64.out)
        have hR5 : Hid (Fr (fun k => k = A0) w w5) := Lib.hid (by
          rw [hw5'.out]
          exact (hR.out.drewN _).trans (Fr.setCell _ ⟨A0, k, none⟩ _) (fun k _ q => q))
        go_wp2_with fail
        go_roundw
        case rel => exact ⟨k + 1, by omega, by go_num, hf5, hR5⟩
        case measure => simp [intOf]; omega
    · have hkn : k = n := by omega
      have hff : Hid (Flt wr B g (some ⟨A0, 0, none⟩) c (joinQ l m) h) := Lib.hid (by
        have := hf.out
        rw [List.take_of_length_le (by rw [hn'.out]; omega), List.take_of_length_le (by rw [← hlm'.out, hn'.out]; omega), List.drop_eq_nil_of_le (by rw [hn'.out]; omega), List.append_nil] at this
        exact this)
      clear hf
      go_wp2_with fail
      go_ret
      exact ⟨rfl, hff.out, hR.out⟩
set_option maxRecDepth 20000 in
theorem join_any {w : World} {B g c h A0 B2 g2 A2 c2 : Nat} {l m : List Nat} (f : Flt w B g (some ⟨A0, 0, none⟩) c l h) (f2 : Flt w B2 g2 (some ⟨A2, 0, none⟩) c2 m h) (hlm : l.length = m.length) (hA : A2 ≠ A0) (hg : g2 ≠ A0) :
    Calls Try.prog 30 #[.pointer (some ⟨g, 0, none⟩), .pointer (some ⟨g2, 0, none⟩)] w (JoinP w B g A0 c h l m) := by
  have hw := Lib.hid (with_join_any f f2 hlm hA hg)
  clear f f2 hlm hA hg
  unfold JoinP at hw ⊢
  go_enter Try.func30, Try.ntmps30
  go_wp2_with (go_at_call 61; refine hw.out.mono ?_; rintro e w9 ⟨rfl, f9, r9⟩; have f9' := Lib.hid f9; have r9' := Lib.hid r9; clear f9 r9)
  go_ret
  exact ⟨rfl, f9'.out, r9'.out⟩
set_option maxRecDepth 20000 in
theorem with_join_no1 {w : World} {p q : Option Addr} (h : NoF w p) (F : Value) : Calls Try.prog 61 #[.pointer p, .pointer q, F] w fun e w' => e = .returned (.int .i64 1) ∧ w = w' := by
  have th := Lib.hid (there_no h)
  clear h
  go_enter Try.func61, Try.ntmps61
  go_wp2_with (go_at_call 48; refine th.out.mono ?_; rintro e w9 ⟨rfl, rfl⟩)
  go_ret
  exact ⟨rfl, rfl⟩
set_option maxRecDepth 20000 in
theorem with_join_no2 {w : World} {B g c h : Nat} {A q : Option Addr} {l : List Nat} (f : Flt w B g A c l h) (hq : NoF w q) (F : Value) : Calls Try.prog 61 #[.pointer (some ⟨g, 0, none⟩), .pointer q, F] w fun e w' => e = .returned (.int .i64 1) ∧ w = w' := by
  have th := Lib.hid (there_any f)
  have th2 := Lib.hid (there_no hq)
  clear f hq
  go_enter Try.func61, Try.ntmps61
  go_wp2_with (first
    | (go_at_call 48; refine th.out.mono ?_; rintro e w9 ⟨rfl, rfl⟩; clear th)
    | (go_at_call 48; refine th2.out.mono ?_; rintro e w9 ⟨rfl, rfl⟩; clear th2))
  go_ret
  exact ⟨rfl, rfl⟩
set_option maxRecDepth 20000 in
set_option maxHeartbeats 1000000 in
theorem with_join_un {w : World} {B g c h B2 g2 c2 h2 : Nat} {A A2 : Option Addr} {l m : List Nat} (f : Flt w B g A c l h) (f2 : Flt w B2 g2 A2 c2 m h2) (hun : ¬ (l.length = m.length ∧ h = h2)) (F : Value) : Calls Try.prog 61 #[.pointer (some ⟨g, 0, none⟩), .pointer (some ⟨g2, 0, none⟩), F] w fun e w' => e = .returned (.int .i64 70) ∧ ∃ m, w' = w.drewN m := by
  have th := Lib.hid (there_any f)
  have th2 := Lib.hid (there_any f2)
  have d0 := f.c0
  have d1 := f.c1
  have d2 := f2.c0
  have d3 := f2.c1
  clear f f2
  by_cases hl : l.length = m.length
  · have hh : ((h : Int) != (h2 : Int)) = true := by
      have : h ≠ h2 := fun e => hun ⟨hl, e⟩
      simp; omega
    rw [← hl] at d2
    clear hun hl
    generalize l.length = n at d0 d2
    go_enter Try.func61, Try.ntmps61
    go_wp2_with (first
      | (go_at_call 48; refine th.out.mono ?_; rintro e w9 ⟨rfl, rfl⟩; clear th)
      | (go_at_call 48; refine th2.out.mono ?_; rintro e w9 ⟨rfl, rfl⟩; clear th2))
    go_quiet (fail)
    go_wp2_with fail
    go_ret
    exact ⟨rfl, _, rfl⟩
  · have hh : ((l.length : Int) != (m.length : Int)) = true := by simp; omega
    clear hun hl
    generalize l.length = n at d0 hh
    generalize m.length = n2 at d2 hh
    go_enter Try.func61, Try.ntmps61
    go_wp2_with (first
      | (go_at_call 48; refine th.out.mono ?_; rintro e w9 ⟨rfl, rfl⟩; clear th)
      | (go_at_call 48; refine th2.out.mono ?_; rintro e w9 ⟨rfl, rfl⟩; clear th2))
    go_quiet (fail)
    go_wp2_with fail
    go_ret
    exact ⟨rfl, _, rfl⟩
set_option maxRecDepth 20000 in
theorem join_no1 {w : World} {p q : Option Addr} (h : NoF w p) : Calls Try.prog 30 #[.pointer p, .pointer q] w fun e w' => e = .returned (.int .i64 1) ∧ w = w' := by
  have th := Lib.hid fun F => with_join_no1 (q := q) h F
  clear h
  go_enter Try.func30, Try.ntmps30
  go_wp2_with (go_at_call 61; refine (th.out _).mono ?_; rintro e w9 ⟨rfl, rfl⟩)
  go_ret
  exact ⟨rfl, rfl⟩
set_option maxRecDepth 20000 in
theorem join_no2 {w : World} {B g c h : Nat} {A q : Option Addr} {l : List Nat} (f : Flt w B g A c l h) (hq : NoF w q) : Calls Try.prog 30 #[.pointer (some ⟨g, 0, none⟩), .pointer q] w fun e w' => e = .returned (.int .i64 1) ∧ w = w' := by
  have th := Lib.hid fun F => with_join_no2 f hq F
  clear f hq
  go_enter Try.func30, Try.ntmps30
  go_wp2_with (go_at_call 61; refine (th.out _).mono ?_; rintro e w9 ⟨rfl, rfl⟩)
  go_ret
  exact ⟨rfl, rfl⟩
set_option maxRecDepth 20000 in
theorem join_un {w : World} {B g c h B2 g2 c2 h2 : Nat} {A A2 : Option Addr} {l m : List Nat} (f : Flt w B g A c l h) (f2 : Flt w B2 g2 A2 c2 m h2) (hun : ¬ (l.length = m.length ∧ h = h2)) : Calls Try.prog 30 #[.pointer (some ⟨g, 0, none⟩), .pointer (some ⟨g2, 0, none⟩)] w fun e w' => e = .returned (.int .i64 70) ∧ ∃ m, w' = w.drewN m := by
  have th := Lib.hid fun F => with_join_un f f2 hun F
  clear f f2 hun
  go_enter Try.func30, Try.ntmps30
  go_wp2_with (go_at_call 61; refine (th.out _).mono ?_; rintro e w9 ⟨rfl, m9, rfl⟩)
  go_ret
  exact ⟨rfl, _, rfl⟩
def meetQ (l m : List Nat) : List Nat := List.zipWith (fun x y => x &&& y) l m
theorem meetQ_length (l m : List Nat) (h : l.length = m.length) : (meetQ l m).length = l.length := by simp [meetQ]; omega
set_option maxRecDepth 20000 in
set_option maxHeartbeats 1000000 in
theorem meetc_any (w : World) (a j x q : Nat) (hx : x < 18446744073709551616) (hq : q < 18446744073709551616)
    (cx : w.cell? ⟨a, j, none⟩ = some (.int .u64 (x : Int))) (fx : w.frozen? ⟨a, j, none⟩ = false) :
    Calls Try.prog 62 #[.pointer (some ⟨a, j, none⟩), .int .u64 (q : Int)] w fun e w' => (∃ v, e = .returned v) ∧ w' = w.setCell ⟨a, j, none⟩ (.int .u64 ((x &&& q : Nat) : Int)) := by
  have e1 := u64_and_nat x q hx hq
  obtain ⟨y, hy⟩ : ∃ y, x &&& q = y := ⟨_, rfl⟩
  rw [hy] at e1 ⊢
  clear hy hx hq
  go_enter Try.func62, Try.ntmps62
  go_wp2_with fail
  go_end0
  exact ⟨⟨_, rfl⟩, rfl⟩
def MeetP (w : World) (B g A0 c h : Nat) (l m : List Nat) (e : Ending) (w' : World) : Prop :=
  e = .returned (.int .i64 0) ∧ Flt w' B g (some ⟨A0, 0, none⟩) c (meetQ l m) h ∧ Fr (fun k => k = A0) w w'
set_option maxRecDepth 20000 in
set_option maxHeartbeats 4000000 in
theorem with_meet_any {w : World} {B g c h A0 B2 g2 A2 c2 : Nat} {l m : List Nat} (f : Flt w B g (some ⟨A0, 0, none⟩) c l h) (f2 : Flt w B2 g2 (some ⟨A2, 0, none⟩) c2 m h) (hlm : l.length = m.length) (hA : A2 ≠ A0) (hg : g2 ≠ A0) :
    Calls Try.prog 61 #[.pointer (some ⟨g, 0, none⟩), .pointer (some ⟨g2, 0, none⟩), .func (.func 62) #[] #[]] w (MeetP w B g A0 c h l m) := by
  have ff := Lib.hid f
  have ff2 := Lib.hid f2
  have th := Lib.hid (there_any f)
  have th2 := Lib.hid (there_any f2)
  have hA' := Lib.hid hA
  have hg' := Lib.hid hg
  have nm := f.nm
  have d0 := f.c0
  have d1 := f.c1
  have d2 := f2.c0
  have d3 := f2.c1
  rw [← hlm] at d2
  have hlm' := Lib.hid hlm
  obtain ⟨n, hn⟩ : ∃ n, l.length = n := ⟨_, rfl⟩
  rw [hn] at nm d0 d2
  have hn' := Lib.hid hn
  clear f f2 hA hg hlm hn
  unfold MeetP
  go_enter Try.func61, Try.ntmps61
  go_wp2_with (first
    | (go_at_call 48; refine th.out.mono ?_; rintro e w9 ⟨rfl, rfl⟩; clear th)
    | (go_at_call 48; refine th2.out.mono ?_; rintro e w9 ⟨rfl, rfl⟩; clear th2))
  go_quiet (fail)
  go_wp2_with fail
  clear d0 d1 d2 d3
  go_loopw [45] (fun iv wr => ∃ k : Nat, k ≤ n ∧ iv = .int .i64 (k : Int) ∧ Hid (Flt wr B g (some ⟨A0, 0, none⟩) c (List.zipWith (fun x y => x &&& y) (l.take k) (m.take k) ++ l.drop k) h) ∧ Hid (Fr (fun k => k = A0) w wr)) (fun iv _ => n - (intOf iv).toNat)
  case atStart => exact ⟨0, by omega, rfl, Lib.hid (by simpa using ff.out.below (below_drewN (Below.refl _ _) _)), Lib.hid ((Fr.refl _ _).drewN _)⟩
  case round =>
    obtain ⟨k, hk, rfl, hf, hR⟩ := hrel
    by_cases hlt : k < n
    · obtain ⟨x, hx⟩ : ∃ x, Hid (l[k]? = some x) := ⟨_, Lib.hid (List.getElem?_eq_getElem (by rw [hn'.out]; exact hlt))⟩
      obtain ⟨y, hy⟩ : ∃ y, Hid (m[k]? = some y) := ⟨_, Lib.hid (List.getElem?_eq_getElem (by rw [← hlm'.out, hn'.out]; exact hlt))⟩
      have hx64 : Hid (x < 18446744073709551616) := Lib.hid (ff.out.lt x (List.mem_of_getElem? hx.out))
      have hy64 : Hid (y < 18446744073709551616) := Lib.hid (ff2.out.lt y (List.mem_of_getElem? hy.out))
      have hzl := Lib.hid (zip_len (fun x y => x &&& y) l m k hlm'.out)
      have f2r := Lib.hid (ff2.out.fr hR.out hg'.out (fun k hk q => hA'.out (by injection hk with hk; exact hk.trans q)))
      have d0 := hf.out.c0
      rw [hzl.out, hn'.out] at d0
      have d2 := f2r.out.c0
      rw [← hlm'.out, hn'.out] at d2
      have cx : Hid (wr.cell? ⟨A0, k, none⟩ = some (.int .u64 (x : Int))) := Lib.hid (by
        obtain ⟨A1, e, _, _, _, hc⟩ := hf.out.at
        injection e with e
        injection e with e
        rw [e]
        exact hc k x (zip_at _ _ _ _ _ hlm'.out hx.out))
      have cy : wr.cell? ⟨A2, k, none⟩ = some (.int .u64 (y : Int)) := by
        obtain ⟨A1, e, _, _, _, hc⟩ := f2r.out.at
        injection e with e
        injection e with e
        rw [e]
        exact hc k y hy.out
      have hq64 : Hid (x &&& y < 18446744073709551616) := Lib.hid (by
        have e64 : (2 : Nat) ^ 64 = 18446744073709551616 := by decide
        have q1 : x &&& y < 2 ^ 64 := Nat.and_lt_two_pow _ (by have := hy64.out; omega)
        omega)
      have hcl : Hid (∀ i, Calls Try.prog 62 #[.pointer (some ⟨A0, k, none⟩), .int .u64 (y : Int)] (wr.drewN i) fun e w' => (∃ v, e = .returned v) ∧ w' = (wr.drewN i).setCell ⟨A0, k, none⟩ (.int .u64 ((x &&& y : Nat) : Int))) := Lib.hid fun i => meetc_any (wr.drewN i) A0 k x y hx64.out hy64.out cx.out (hf.out.fz k)
      go_wp2_with fail
      go_region_with ((go_at_call 62
                       refine (hcl.out _).mono ?_
                       rintro e w5 ⟨⟨v5, rfl⟩, hw5⟩
                       have hw5' := Lib.hid hw5
                       clear hw5))
      all_goals
        have hs1 := Lib.hid (zip_next (fun x y => x &&& y) l m k x y hx.out hy.out)
        have hf5 : Hid (Flt w5 B g (some ⟨A0, 0, none⟩) c (List.zipWith (fun x y => x &&& y) (l.take (k + 1)) (m.take (k + 1)) ++ l.drop (k + 1)) h) := Lib.hid (by
          rw [hw5'.out, ← hs1.out]
          exact (hf.out.below (below_drewN (Below.refl _ _) _)).put k (x &&& y) (by rw [hzl.out, hn'.out]; exact hlt) hq64.out)
        have hR5 : Hid (Fr (fun k => k = A0) w w5) := Lib.hid (by
          rw [hw5'.out]
          exact (hR.out.drewN _).trans (Fr.setCell _ ⟨A0, k, none⟩ _) (fun k _ q => q))
        go_wp2_with fail
        go_roundw
        case rel => exact ⟨k + 1, by omega, by go_num, hf5, hR5⟩
        case measure => simp [intOf]; omega
    · have hkn : k = n := by omega
      have hff : Hid (Flt wr B g (some ⟨A0, 0, none⟩) c (meetQ l m) h) := Lib.hid (by
        have := hf.out
        rw [List.take_of_length_le (by rw [hn'.out]; omega), List.take_of_length_le (by rw [← hlm'.out, hn'.out]; omega), List.drop_eq_nil_of_le (by rw [hn'.out]; omega), List.append_nil] at this
        exact this)
      clear hf
      go_wp2_with fail
      go_ret
      exact ⟨rfl, hff.out, hR.out⟩
set_option maxRecDepth 20000 in
theorem meet_any {w : World} {B g c h A0 B2 g2 A2 c2 : Nat} {l m : List Nat} (f : Flt w B g (some ⟨A0, 0, none⟩) c l h) (f2 : Flt w B2 g2 (some ⟨A2, 0, none⟩) c2 m h) (hlm : l.length = m.length) (hA : A2 ≠ A0) (hg : g2 ≠ A0) :
    Calls Try.prog 29 #[.pointer (some ⟨g, 0, none⟩), .pointer (some ⟨g2, 0, none⟩)] w (MeetP w B g A0 c h l m) := by
  have hw := Lib.hid (with_meet_any f f2 hlm hA hg)
  clear f f2 hlm hA hg
  unfold MeetP at hw ⊢
  go_enter Try.func29, Try.ntmps29
  go_wp2_with (go_at_call 61; refine hw.out.mono ?_; rintro e w9 ⟨rfl, f9, r9⟩; have f9' := Lib.hid f9; have r9' := Lib.hid r9; clear f9 r9)
  go_ret
  exact ⟨rfl, f9'.out, r9'.out⟩
set_option maxRecDepth 20000 in
theorem with_meet_no1 {w : World} {p q : Option Addr} (h : NoF w p) (F : Value) : Calls Try.prog 61 #[.pointer p, .pointer q, F] w fun e w' => e = .returned (.int .i64 1) ∧ w = w' := by
  have th := Lib.hid (there_no h)
  clear h
  go_enter Try.func61, Try.ntmps61
  go_wp2_with (go_at_call 48; refine th.out.mono ?_; rintro e w9 ⟨rfl, rfl⟩)
  go_ret
  exact ⟨rfl, rfl⟩
set_option maxRecDepth 20000 in
theorem with_meet_no2 {w : World} {B g c h : Nat} {A q : Option Addr} {l : List Nat} (f : Flt w B g A c l h) (hq : NoF w q) (F : Value) : Calls Try.prog 61 #[.pointer (some ⟨g, 0, none⟩), .pointer q, F] w fun e w' => e = .returned (.int .i64 1) ∧ w = w' := by
  have th := Lib.hid (there_any f)
  have th2 := Lib.hid (there_no hq)
  clear f hq
  go_enter Try.func61, Try.ntmps61
  go_wp2_with (first
    | (go_at_call 48; refine th.out.mono ?_; rintro e w9 ⟨rfl, rfl⟩; clear th)
    | (go_at_call 48; refine th2.out.mono ?_; rintro e w9 ⟨rfl, rfl⟩; clear th2))
  go_ret
  exact ⟨rfl, rfl⟩
set_option maxRecDepth 20000 in
set_option maxHeartbeats 1000000 in
theorem with_meet_un {w : World} {B g c h B2 g2 c2 h2 : Nat} {A A2 : Option Addr} {l m : List Nat} (f : Flt w B g A c l h) (f2 : Flt w B2 g2 A2 c2 m h2) (hun : ¬ (l.length = m.length ∧ h = h2)) (F : Value) : Calls Try.prog 61 #[.pointer (some ⟨g, 0, none⟩), .pointer (some ⟨g2, 0, none⟩), F] w fun e w' => e = .returned (.int .i64 70) ∧ ∃ m, w' = w.drewN m := by
  have th := Lib.hid (there_any f)
  have th2 := Lib.hid (there_any f2)
  have d0 := f.c0
  have d1 := f.c1
  have d2 := f2.c0
  have d3 := f2.c1
  clear f f2
  by_cases hl : l.length = m.length
  · have hh : ((h : Int) != (h2 : Int)) = true := by
      have : h ≠ h2 := fun e => hun ⟨hl, e⟩
      simp; omega
    rw [← hl] at d2
    clear hun hl
    generalize l.length = n at d0 d2
    go_enter Try.func61, Try.ntmps61
    go_wp2_with (first
      | (go_at_call 48; refine th.out.mono ?_; rintro e w9 ⟨rfl, rfl⟩; clear th)
      | (go_at_call 48; refine th2.out.mono ?_; rintro e w9 ⟨rfl, rfl⟩; clear th2))
    go_quiet (fail)
    go_wp2_with fail
    go_ret
    exact ⟨rfl, _, rfl⟩
  · have hh : ((l.length : Int) != (m.length : Int)) = true := by simp; omega
    clear hun hl
    generalize l.length = n at d0 hh
    generalize m.length = n2 at d2 hh
    go_enter Try.func61, Try.ntmps61
    go_wp2_with (first
      | (go_at_call 48; refine th.out.mono ?_; rintro e w9 ⟨rfl, rfl⟩; clear th)
      | (go_at_call 48; refine th2.out.mono ?_; rintro e w9 ⟨rfl, rfl⟩; clear th2))
    go_quiet (fail)
    go_wp2_with fail
    go_ret
    exact ⟨rfl, _, rfl⟩
set_option maxRecDepth 20000 in
theorem meet_no1 {w : World} {p q : Option Addr} (h : NoF w p) : Calls Try.prog 29 #[.pointer p, .pointer q] w fun e w' => e = .returned (.int .i64 1) ∧ w = w' := by
  have th := Lib.hid fun F => with_meet_no1 (q := q) h F
  clear h
  go_enter Try.func29, Try.ntmps29
  go_wp2_with (go_at_call 61; refine (th.out _).mono ?_; rintro e w9 ⟨rfl, rfl⟩)
  go_ret
  exact ⟨rfl, rfl⟩
set_option maxRecDepth 20000 in
theorem meet_no2 {w : World} {B g c h : Nat} {A q : Option Addr} {l : List Nat} (f : Flt w B g A c l h) (hq : NoF w q) : Calls Try.prog 29 #[.pointer (some ⟨g, 0, none⟩), .pointer q] w fun e w' => e = .returned (.int .i64 1) ∧ w = w' := by
  have th := Lib.hid fun F => with_meet_no2 f hq F
  clear f hq
  go_enter Try.func29, Try.ntmps29
  go_wp2_with (go_at_call 61; refine (th.out _).mono ?_; rintro e w9 ⟨rfl, rfl⟩)
  go_ret
  exact ⟨rfl, rfl⟩
set_option maxRecDepth 20000 in
theorem meet_un {w : World} {B g c h B2 g2 c2 h2 : Nat} {A A2 : Option Addr} {l m : List Nat} (f : Flt w B g A c l h) (f2 : Flt w B2 g2 A2 c2 m h2) (hun : ¬ (l.length = m.length ∧ h = h2)) : Calls Try.prog 29 #[.pointer (some ⟨g, 0, none⟩), .pointer (some ⟨g2, 0, none⟩)] w fun e w' => e = .returned (.int .i64 70) ∧ ∃ m, w' = w.drewN m := by
  have th := Lib.hid fun F => with_meet_un f f2 hun F
  clear f f2 hun
  go_enter Try.func29, Try.ntmps29
  go_wp2_with (go_at_call 61; refine (th.out _).mono ?_; rintro e w9 ⟨rfl, m9, rfl⟩)
  go_ret
  exact ⟨rfl, _, rfl⟩
end Go.Proofs.Ytlghgfnkckaebaa

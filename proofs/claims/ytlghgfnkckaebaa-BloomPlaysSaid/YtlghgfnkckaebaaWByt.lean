/- A filter as bytes. -/
import Derived.Test.YtlghgfnkckaebaaWOpn
import Derived.Test.YtlghgfnkckaebaaWPut
namespace Go.Proofs.Ytlghgfnkckaebaa
open Go.RowKit
set_option linter.unusedSimpArgs false
set_option linter.unusedVariables false

/-- A filter's bytes. -/
def fBy (h : Nat) (l : List Nat) : List Nat := fixF 1 h ++ fixF 2 l.length ++ l.flatMap (fixF 8)
theorem flat8_length : ∀ l : List Nat, (l.flatMap (fixF 8)).length = 8 * l.length
  | [] => rfl
  | x :: l => by rw [List.flatMap_cons, List.length_append, fixF_length, flat8_length l, List.length_cons]; omega
theorem fBy_length (h : Nat) (l : List Nat) : (fBy h l).length = 3 + 8 * l.length := by
  unfold fBy
  rw [List.length_append, List.length_append, fixF_length, fixF_length, flat8_length]
theorem flat8_take (l : List Nat) (k x : Nat) (h : l[k]? = some x) : (l.take (k + 1)).flatMap (fixF 8) = (l.take k).flatMap (fixF 8) ++ fixF 8 x := by
  rw [List.take_add_one, h, List.flatMap_append]
  simp
theorem fnil_any (w : World) : Calls Try.prog 22 #[.pointer none] w fun e w' => e = .returned (.slice none 0 0) ∧ w = w' := by
  have hth := Lib.hid (there_nil w)
  go_enter Try.func22, Try.ntmps22
  go_wp2_with (go_at_call 48; refine hth.out.mono ?_; rintro e w2 ⟨rfl, rfl⟩)
  go_ret
  exact ⟨rfl, rfl⟩
def FByP (w : World) (L : List Nat) (e : Ending) (w' : World) : Prop := (∃ A' c', e = .returned (.slice A' L.length c') ∧ Own w' w.heap.size 5 1 A' L.length c' (u8s L)) ∧ Below w.heap.size w w'
theorem Own.baseB {w : World} {B B' : Nat} {e : TypeId} {size n c : Nat} {A : Option Addr} {xs : List Value} (h : Own w B e size A n c xs) (hB : B' ≤ B) : Own w B' e size A n c xs := h.base hB
set_option maxRecDepth 20000 in
set_option maxHeartbeats 2000000 in
theorem fbytes_any {w : World} {B g h c : Nat} {A : Option Addr} {l : List Nat} (f : Flt w B g A c l h) : Calls Try.prog 22 #[.pointer (some ⟨g, 0, none⟩)] w (FByP w (fBy h l)) := by
  have f' := Lib.hid f
  have c0 := f.c0
  have c1 := f.c1
  have hth := Lib.hid (there_any f)
  have h1 := f.h1
  have h16 := f.h16
  have n1 := f.n1
  have nm := f.nm
  have hgl := Lib.hid f.lt_
  obtain ⟨L, hL⟩ : ∃ L, Hid (∀ _ : Unit, fBy h l = L) := ⟨_, Lib.hid fun _ => rfl⟩
  have hLn : Hid (L.length = 3 + 8 * l.length) := Lib.hid (by rw [← hL.out ()]; exact fBy_length h l)
  rw [hL.out ()]
  obtain ⟨n, hn⟩ : ∃ n, l.length = n := ⟨_, rfl⟩
  rw [hn] at c0 n1 nm hLn
  obtain ⟨m, hm⟩ : ∃ m, L.length = m := ⟨_, rfl⟩
  have hn' := Lib.hid hn
  have hm' := Lib.hid hm
  obtain ⟨a, hA, _, hal, _, hcel⟩ := f.at
  subst hA
  have w8 : IntKind.u8.wrap (h : Int) = (h : Int) := by rw [IntKind.wrap_u8]; omega
  have w16 : IntKind.u16.wrap (n : Int) = (n : Int) := by rw [IntKind.wrap_u16]; omega
  have m8 : (h : Int) % 256 = (h : Int) := by omega
  have m16 : (n : Int) % 65536 = (n : Int) := by omega
  clear f hcel hn hm
  obtain ⟨E, hE⟩ : ∃ E, w.heap.size = E := ⟨_, rfl⟩
  have hE' := Lib.hid hE
  obtain ⟨w0, hw0⟩ : ∃ w0, w.alloc (.cells #[.slice none 0 0, .pointer none] 92) = w0 := ⟨_, rfl⟩
  have hb0 : Hid (Below E w w0) := Lib.hid (by rw [← hw0]; exact (Below.refl _ _).alloc (Nat.le_of_eq hE'.out.symm) _)
  have hz0 : Hid (EncZ w0 E) := Lib.hid ⟨by rw [← hw0, ← hE'.out]; exact heap_alloc_new w _⟩
  have c01 : w0.cell? ⟨g, 1, none⟩ = some (.int .i64 (h : Int)) := (hb0.out.cell (p := ⟨g, 1, none⟩) (hE'.out ▸ hgl.out)).trans c1
  clear c0 c1
  go_enter Try.func22, Try.ntmps22
  go_wp2_with (first
    | (go_at_call 48; refine hth.out.mono ?_; rintro e w2 ⟨rfl, rfl⟩)
    | (go_at_call 49
       refine (put8F_any hz0.out h (by omega)).mono ?_
       rintro e w2 ⟨⟨v2, rfl⟩, A2, c2, he2, hr2⟩
       have he2' := Lib.hid he2
       have hb2 : Hid (Below E w w2) := Lib.hid (hb0.out.trans (hr2.below (Nat.le_refl _) (fun k hk => by cases hk) (hE'.out ▸ hb0.out.size)))
       have c02 : w2.cell? ⟨g, 0, none⟩ = some (.slice (some ⟨a, 0, none⟩) n c) := (hb2.out.cell (p := ⟨g, 0, none⟩) (hE'.out ▸ hgl.out)).trans (f'.out.c0.trans (by rw [hn'.out]))
       clear he2 hr2 c01)
    | (go_at_call 50
       refine (putuint16_any he2'.out n (by omega) (by rw [fixF_length]; omega)).mono ?_
       rintro e w3 ⟨⟨v3, rfl⟩, A3, c3, he3, hr3⟩
       have he3' := Lib.hid he3
       have hb3 : Hid (Below E w w3) := Lib.hid (hb2.out.trans (hr3.below (Nat.le_refl _) (fun k hk => Nat.le_of_succ_le (he2'.out.off k hk)) (hE'.out ▸ hb2.out.size)))
       have c03 : w3.cell? ⟨g, 0, none⟩ = some (.slice (some ⟨a, 0, none⟩) n c) := (hb3.out.cell (p := ⟨g, 0, none⟩) (hE'.out ▸ hgl.out)).trans (f'.out.c0.trans (by rw [hn'.out]))
       clear he3 hr3 c02))
  clear hth hz0 hb2 he2' hb0 c03 hw0 w8 w16 m8 m16
  go_loopw [31] (fun iv wr => ∃ (j : Nat) (A4 : Option Addr) (c4 : Nat), j ≤ n ∧ iv = .int .i64 (j : Int) ∧ Hid (EncAt wr E A4 c4 (fixF 1 h ++ fixF 2 n ++ (l.take j).flatMap (fixF 8))) ∧ Hid (Below E w wr)) (fun iv _ => n - (intOf iv).toNat)
  case atStart => exact ⟨0, A3, c3, by omega, rfl, Lib.hid (by rw [List.take_zero]; simpa using he3'.out), hb3⟩
  case round =>
    clear he3' hb3
    obtain ⟨j, A4, c4, hj, rfl, he, hb⟩ := hrel
    have hlen : Hid ((fixF 1 h ++ fixF 2 n ++ (l.take j).flatMap (fixF 8)).length = 3 + 8 * j) := Lib.hid (by
      rw [List.length_append, List.length_append, fixF_length, fixF_length, flat8_length, List.length_take, hn'.out]
      omega)
    by_cases hlt : j < n
    · obtain ⟨x, hx⟩ : ∃ x, Hid (l[j]? = some x) := ⟨_, Lib.hid (List.getElem?_eq_getElem (by rw [hn'.out]; exact hlt))⟩
      have hxl : x < 18446744073709551616 := f'.out.lt x (List.mem_of_getElem? hx.out)
      have cj : wr.cell? ⟨a, j, none⟩ = some (.int .u64 (x : Int)) := (hb.out.cell (p := ⟨a, j, none⟩) (hE'.out ▸ hal)).trans (by
        obtain ⟨a', ha, _, _, _, hc⟩ := f'.out.at
        injection ha with ha
        injection ha with ha
        rw [ha]
        exact hc j x hx.out)
      go_wp2_with (first
        | (go_at_call 51
           refine (putuint64_any he.out x hxl (by rw [hlen.out]; omega)).mono ?_
           rintro e w5 ⟨⟨v5, rfl⟩, A5, c5, he5, hr5⟩
           have he5' := Lib.hid he5
           have hr5' := Lib.hid hr5
           clear he5 hr5))
      go_roundw
      case rel => exact ⟨j + 1, A5, c5, by omega, by go_num, Lib.hid (by rw [flat8_take l j x hx.out, ← List.append_assoc]; exact he5'.out), Lib.hid (hb.out.trans (hr5'.out.below (Nat.le_refl _) (fun k hk => Nat.le_of_succ_le (he.out.off k hk)) (hE'.out ▸ hb.out.size)))⟩
      case measure => simp [intOf]; omega
    · have hfin : Hid (EncAt wr E A4 c4 L) := Lib.hid (by
        have h1 := he.out
        rw [List.take_of_length_le (by rw [hn'.out]; omega)] at h1
        have h2 := hL.out ()
        unfold fBy at h2
        rw [hn'.out] at h2
        rwa [h2] at h1)
      go_wp2_with (first
        | (go_at_call 52
           refine (encbytes_any hfin.out (by rw [hLn.out]; omega) (by rw [hLn.out]; omega)).mono ?_
           rintro e w5 ⟨⟨A5, c5, rfl, o5⟩, b5⟩
           have o5' := Lib.hid o5
           have b5' := Lib.hid b5
           clear o5 b5))
      go_ret
      exact ⟨⟨A5, c5, rfl, o5'.out.baseB hb.out.size⟩, by rw [hE'.out]; exact hb.out.trans (b5'.out.mono (hE'.out ▸ hb.out.size))⟩
end Go.Proofs.Ytlghgfnkckaebaa

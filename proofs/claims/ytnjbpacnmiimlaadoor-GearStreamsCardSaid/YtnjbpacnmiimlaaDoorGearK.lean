/- GearBack: the law's walk. -/
import Derived.Test.YtnjbpacnmiimlaaDoorGearH
import Derived.Test.YtnjbpacnmiimlaaDoorGearN
namespace Go.Proofs.YtnjbpacnmiimlaaDoor
open Go.RowKit

/-- The cells of an Ask in a block. -/
structure Box4 (w : World) (b : Nat) (a m x : Int) (A : Option Addr) (n c : Nat) : Prop where
  q0 : w.cell? ⟨b, 0, none⟩ = some (.int .i64 a)
  q1 : w.cell? ⟨b, 1, none⟩ = some (.int .i64 m)
  q2 : w.cell? ⟨b, 2, none⟩ = some (.int .i64 x)
  q3 : w.cell? ⟨b, 3, none⟩ = some (.slice A n c)
theorem Box4.new (w : World) (t : TypeId) (a m x : Int) (A : Option Addr) (n c : Nat) : Box4 (w.alloc (.cells #[.int .i64 a, .int .i64 m, .int .i64 x, .slice A n c] t)) w.heap.size a m x A n c := by
  have h := heap_alloc_new w (.cells #[.int .i64 a, .int .i64 m, .int .i64 x, .slice A n c] t)
  exact ⟨cell_of_row _ w.heap.size 0 _ _ _ h, cell_of_row _ w.heap.size 1 _ _ _ h, cell_of_row _ w.heap.size 2 _ _ _ h, cell_of_row _ w.heap.size 3 _ _ _ h⟩
theorem Box4.keep {w w' : World} {b : Nat} {a m x : Int} {A : Option Addr} {n c B : Nat} (h : Box4 w b a m x A n c) (hb : Below B w w') (hB : b < B) : Box4 w' b a m x A n c :=
  ⟨(hb.cell (p := ⟨b, 0, none⟩) hB).trans h.q0, (hb.cell (p := ⟨b, 1, none⟩) hB).trans h.q1, (hb.cell (p := ⟨b, 2, none⟩) hB).trans h.q2, (hb.cell (p := ⟨b, 3, none⟩) hB).trans h.q3⟩

theorem back_of {a m x : Int} (ok : okRule a m x) (X Y T : List Nat) {N : Nat} (hN : T.length = N) : Back (Gear.cut a m x (X ++ T)) (Gear.cut a m x (Y ++ T)) N := fun i k h1 h2 => Gear.behind_ok ok X Y T i k h1 (by rw [hN]; exact h2)
theorem alike_of {a m x : Int} (ok : okRule a m x) (X Y : List Nat) : Alike X Y (Gear.cut a m x X) (Gear.cut a m x Y) := fun p i _ _ h1 h2 h3 h4 h5 h6 h7 => Gear.ahead_ok ok X Y p i h1 h2 h3 h4 h5 h6 h7

set_option maxRecDepth 20000 in
set_option maxHeartbeats 4000000 in
theorem back_any (a m x : Int) (l0 l1 l2 : List Nat) (A0 A1 A2 : Option Addr) (n0 n1 n2 k0 k1 k2 : Nat) (w : World) (b0 : ∀ b ∈ l0, b < 256) (b1 : ∀ b ∈ l1, b < 256) (b2 : ∀ b ∈ l2, b < 256) (h0 : l0.length = n0) (h1 : l1.length = n1) (h2 : l2.length = n2)
    (hn : n0 + n1 + n2 ≤ 1048576) (r0 : Byt w w.heap.size A0 l0) (r1 : Byt w w.heap.size A1 l1) (r2 : Byt w w.heap.size A2 l2) (hT : Tz w) :
    Calls Tryd.prog 4 #[.agg #[.int .i64 a, .int .i64 m, .int .i64 x, .slice A0 n0 k0], .slice A1 n1 k1, .slice A2 n2 k2] w fun e w' => e = .returned (.bool true) ∧ Below w.heap.size w w' := by
  have b0' := Lib.hid b0
  have b1' := Lib.hid b1
  have b2' := Lib.hid b2
  have h0' := Lib.hid h0
  have h1' := Lib.hid h1
  have h2' := Lib.hid h2
  have r0' := Lib.hid r0
  have r1' := Lib.hid r1
  have r2' := Lib.hid r2
  have hT' := Lib.hid hT
  have hb0 := Lib.hid ((Below.refl w.heap.size w).alloc (Nat.le_refl _) (.cells #[.int .i64 a, .int .i64 m, .int .i64 x, .slice A0 n0 k0] 26))
  have hbox := Lib.hid (Box4.new w 26 a m x A0 n0 k0)
  clear b0 b1 b2 h0 h1 h2 r0 r1 r2 hT
  go_enter Tryd.func4, Tryd.ntmps4
  go_wp2_with fail
  refine (lives_any _ (hT'.out.below hb0.out)).mono ?_
  rintro e w1 ⟨rfl, hb1⟩
  have hB1 := Lib.hid (hb0.out.trans (hb1.mono (by simp)))
  have hbox1 := Lib.hid (hbox.out.keep hb1 (by simp))
  have hz1 : w.heap.size + 1 ≤ w1.heap.size := by have := hb1.size; simpa using this
  have q3 := hbox1.out.q3
  clear hb1 hbox hb0
  go_wp2_with (first
    | (at_builtin; refine wpList_appB elB _ rfl (.tmp 15) (.tmp 17) rfl rfl (ownB_nil _ (w.heap.size + 1) _) rfl h0'.out (r0'.out.below hB1.out) (by omega) hz1 n0 (by omega) ?_; intro A5 c5 w2 o5 _ hb2; rw [List.nil_append] at o5; have s2 := hb2.size)
    | (at_builtin; refine wpList_appB elB _ rfl (.tmp 19) (.tmp 20) rfl rfl o5 rfl h2'.out (r2'.out.below (hB1.out.trans (hb2.mono (by omega)))) (by omega) (by omega) (n0 + n2) (by omega) ?_; intro A6 c6 w3 o6 _ hb3; have s3 := hb3.size)
    | (at_builtin; refine wpList_appB elB _ rfl (.tmp 22) (.tmp 23) rfl rfl (ownB_nil _ w3.heap.size _) rfl h1'.out (r1'.out.below (hB1.out.trans ((hb2.trans hb3).mono (by omega)))) (by omega) (Nat.le_refl _) n1 (by omega) ?_; intro A7 c7 w4 o7 _ hb4; rw [List.nil_append] at o7; have s4 := hb4.size)
    | (at_builtin; refine wpList_appB elB _ rfl (.tmp 25) (.tmp 26) rfl rfl o7 rfl h2'.out (r2'.out.below (hB1.out.trans (((hb2.trans hb3).trans (hb4.mono (by omega))).mono (by omega)))) (by omega) (by omega) (n1 + n2) (by omega) ?_; intro A8 c8 w5 o8 _ hb5; have hb15 : Below (w.heap.size + 1) w1 w5 := (hb2.trans hb3).trans ((hb4.trans hb5).mono (by omega)); obtain ⟨y0, y1, y2, y3⟩ := hbox1.out.keep hb15 (by omega)))
  have o6' := Lib.hid (o6.below (hb4.trans hb5) (fun k hk => (o6.lt k hk).2))
  have o8' := Lib.hid o8
  have hB5 := Lib.hid (hB1.out.trans (hb15.mono (by omega)))
  have hz5 : w.heap.size + 1 ≤ w5.heap.size := by have := hb15.size; omega
  have hle6 := o6'.out.le
  have hle8 := o8'.out.le
  have hla : (l0 ++ l2).length = n0 + n2 := by rw [List.length_append, h0'.out, h2'.out]
  have hlb : (l1 ++ l2).length = n1 + n2 := by rw [List.length_append, h1'.out, h2'.out]
  have hba : ∀ b ∈ l0 ++ l2, b < 256 := fun b hb => by rcases List.mem_append.1 hb with h | h; exact b0'.out b h; exact b2'.out b h
  have hbb : ∀ b ∈ l1 ++ l2, b < 256 := fun b hb => by rcases List.mem_append.1 hb with h | h; exact b1'.out b h; exact b2'.out b h
  have hla' := Lib.hid hla
  have hlb' := Lib.hid hlb
  have hba' := Lib.hid hba
  have hbb' := Lib.hid hbb
  clear hla hlb hba hbb o5 o6 o7 o8 hb2 hb3 hb4 hb5 hb15 q3 hbox1 hB1
  have hcut1 := cut_any a m x (l0 ++ l2) A6 c6 (n0 + n2) w5 hla'.out hba'.out (by omega) hle6.1 o6'.out.byt (hT'.out.below hB5.out)
  have hcut2 := fun W h1 h2 => cut_any a m x (l1 ++ l2) A8 c8 (n1 + n2) W hlb'.out hbb'.out (by omega) hle8.1 h1 h2
  obtain ⟨ls, hls⟩ : ∃ ls, Hid (∀ _ : Unit, Gear.cut a m x (l0 ++ l2) = ls) := ⟨_, Lib.hid fun _ => rfl⟩
  obtain ⟨ms, hms⟩ : ∃ ms, Hid (∀ _ : Unit, Gear.cut a m x (l1 ++ l2) = ms) := ⟨_, Lib.hid fun _ => rfl⟩
  obtain ⟨n3, hn3⟩ : ∃ n, Hid (∀ _ : Unit, ls.length = n) := ⟨_, Lib.hid fun _ => rfl⟩
  obtain ⟨n4, hn4⟩ : ∃ n, Hid (∀ _ : Unit, ms.length = n) := ⟨_, Lib.hid fun _ => rfl⟩
  obtain ⟨ck, hck⟩ : ∃ ck, Hid (∀ _ : Unit, chk a m x = ck) := ⟨_, Lib.hid fun _ => rfl⟩
  have hn3b : n3 ≤ 1048576 := by
    have := Gear.cut_length a m x (l0 ++ l2)
    rw [hls.out (), hn3.out (), hla'.out] at this
    omega
  have hn4b : n4 ≤ 1048576 := by
    have := Gear.cut_length a m x (l1 ++ l2)
    rw [hms.out (), hn4.out (), hlb'.out] at this
    omega
  simp only [hls.out (), hn3.out (), hck.out ()] at hcut1
  simp only [hms.out (), hn4.out (), hck.out ()] at hcut2
  have hcut2' := Lib.hid hcut2
  clear hcut2
  refine hcut1.mono ?_
  rintro e w6 ⟨⟨A9, c9, rfl, o9⟩, hb6⟩
  have hB6 := Lib.hid (hB5.out.trans (hb6.mono hB5.out.size))
  have hz6 : w5.heap.size ≤ w6.heap.size := hb6.size
  have o6'' := Lib.hid (o6'.out.below hb6 (fun k hk => (o6'.out.lt k hk).2))
  have o8'' := Lib.hid (o8'.out.below hb6 (fun k hk => (o8'.out.lt k hk).2))
  have o9' := Lib.hid o9
  have x0 := (hb6.cell (p := ⟨w.heap.size, 0, none⟩) (by simp; omega)).trans y0
  have x1 := (hb6.cell (p := ⟨w.heap.size, 1, none⟩) (by simp; omega)).trans y1
  have x2 := (hb6.cell (p := ⟨w.heap.size, 2, none⟩) (by simp; omega)).trans y2
  have x3 := (hb6.cell (p := ⟨w.heap.size, 3, none⟩) (by simp; omega)).trans y3
  clear y0 y1 y2 y3 o6' o8' o9 hb6 hB5 hcut1
  go_wp2_with fail
  refine (hcut2'.out w6 o8''.out.byt (hT'.out.below hB6.out)).mono ?_
  rintro e w7 ⟨⟨A10, c10, rfl, o10⟩, hb7⟩
  have hB7 := Lib.hid (hB6.out.trans (hb7.mono hB6.out.size))
  have p6 := Lib.hid (o6''.out.below hb7 (fun k hk => (o6''.out.lt k hk).2)).byt
  have p8 := Lib.hid (o8''.out.below hb7 (fun k hk => (o8''.out.lt k hk).2)).byt
  have p9 := Lib.hid (o9'.out.below hb7 (fun k hk => (o9'.out.lt k hk).2)).nts
  have p10 := Lib.hid o10.nts
  have y0 := (hb7.cell (p := ⟨w.heap.size, 0, none⟩) (by simp; omega)).trans x0
  have y1 := (hb7.cell (p := ⟨w.heap.size, 1, none⟩) (by simp; omega)).trans x1
  have y2 := (hb7.cell (p := ⟨w.heap.size, 2, none⟩) (by simp; omega)).trans x2
  have y3 := (hb7.cell (p := ⟨w.heap.size, 3, none⟩) (by simp; omega)).trans x3
  clear x0 x1 x2 x3 o6'' o8'' o9' o10 hb7 hB6 hcut2'
  by_cases ok : okRule a m x
  · have hck0 := hck.out ()
    rw [chk_ok ok] at hck0
    subst hck0
    have hs1 : ls.sum ≤ 4194304 := by
      rw [← hls.out (), Gear.cut_sum ok _ _ (Nat.le_refl _), hla'.out]
      omega
    have hs2 : ms.sum ≤ 4194304 := by
      rw [← hms.out (), Gear.cut_sum ok _ _ (Nat.le_refl _), hlb'.out]
      omega
    have hbk : Back ls ms n2 := by
      rw [← hls.out (), ← hms.out ()]
      exact back_of ok l0 l1 l2 h2'.out
    have hal : Alike (l0 ++ l2) (l1 ++ l2) ls ms := by
      rw [← hls.out (), ← hms.out ()]
      exact alike_of ok _ _
    have hbeh := Lib.hid fun z4 z5 => behind_any ls ms _ a m x A0 A9 A10 n0 k0 n3 n4 c9 c10 n2 z4 z5 w7 (hn3.out ()) (hn4.out ()) hs1 hs2 (by omega) (by omega) rfl p9.out p10.out hbk
    have hah := Lib.hid fun W (hW : Below w7.heap.size w7 W) => ahead_any (l0 ++ l2) (l1 ++ l2) ls ms A6 A8 A9 A10 (n0 + n2) (n1 + n2) n3 n4 c6 c8 c9 c10 w7.heap.size W hla'.out hlb'.out (hn3.out ()) (hn4.out ()) (by omega) (by omega) hs1 hs2 (by omega) (p6.out.below hW) (p8.out.below hW) (p9.out.below hW) (p10.out.below hW) hal
    clear hs1 hs2 hbk hal ok
    go_wp2_with (first
      | (go_at_call 17; refine (hbeh.out _ _).mono ?_; rintro e w8 ⟨rfl, hb8⟩)
      | (go_at_call 18; refine (hah.out _ hb8).mono ?_; rintro e w9 ⟨rfl, mq, rfl⟩))
    go_ret
    exact ⟨rfl, below_drewN (hB7.out.trans (hb8.mono hB7.out.size)) _⟩
  · have hck0 := hck.out ()
    rw [chk_no ok] at hck0
    subst hck0
    clear ok
    go_wp2_with fail
    go_ret
    exact ⟨rfl, hB7.out⟩
end Go.Proofs.YtnjbpacnmiimlaaDoor

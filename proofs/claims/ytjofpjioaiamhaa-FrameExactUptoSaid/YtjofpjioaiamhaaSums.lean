/- FrameSums: the law's walk. -/
import Derived.Test.YtjofpjioaiamhaaMore
import Derived.Test.YtjofpjioaiamhaaBulk
import Derived.Lib.SmallJoins
import Derived.Lib.SlBytesConst
import Derived.ProofKit
import Derived.OpenShut
namespace Go.Proofs.Ytjofpjioaiamhaa
open Go.RowKit

def known : List Nat := [49, 50, 51, 52, 53, 54, 55, 56, 57]
theorem known_sum : Crc.more 0 known = 3808858755 := by decide +kernel
theorem none_sum : Crc.more 0 [] = 0 := by decide +kernel
theorem known_byt (w : World) : Byt (w.alloc (.cells #[.int .u8 49, .int .u8 50, .int .u8 51, .int .u8 52, .int .u8 53, .int .u8 54, .int .u8 55, .int .u8 56, .int .u8 57] 5 (9, 10))) (w.heap.size + 1) (some ⟨w.heap.size, 0, none⟩) known := fun _ => by
  refine ⟨w.heap.size, 0, rfl, by omega, fun j hj => ?_⟩
  rw [Go.Joins.cell_alloc_mark_at _ _ _ _ _ _ rfl]
  have h : (u8s known)[j]? = some (.int .u8 ((known[j]?.getD 0 : Nat) : Int)) := u8s_get known j hj
  rw [← h, Nat.zero_add, List.getElem?_toArray]
  rfl

theorem set_split (l : List Nat) (k y : Nat) (hk : k < l.length) : l.set k y = l.take k ++ y :: l.drop (k + 1) := by
  induction l generalizing k with
  | nil => simp at hk
  | cons a l ih =>
    cases k with
    | zero => simp
    | succ k => simp [ih k (by simpa using hk)]
theorem split_at (l : List Nat) (k : Nat) (hk : k < l.length) : l = l.take k ++ l[k]?.getD 0 :: l.drop (k + 1) := by
  rw [List.getElem?_eq_getElem hk, Option.getD_some, ← List.drop_eq_getElem_cons hk, List.take_append_drop]
theorem crc_set {l : List Nat} {k y : Nat} (hl : ∀ b ∈ l, b < 256) (hk : k < l.length) (hy : y < 256) (hne : y ≠ l[k]?.getD 0) : Crc.more 0 (l.set k y) ≠ Crc.more 0 l := by
  intro h
  rw [set_split l k y hk] at h
  rw [split_at l k hk] at h
  have e1 : (l.take k ++ l[k]?.getD 0 :: l.drop (k + 1)).take k = l.take k := List.take_left' (by simp; omega)
  have e2 : (l.take k ++ l[k]?.getD 0 :: l.drop (k + 1)).drop (k + 1) = l.drop (k + 1) := by rw [← split_at l k hk]
  rw [e1, e2] at h
  exact hne (Crc.more_byte (fun b hb => hl b (List.mem_of_mem_take hb)) (fun b hb => hl b (List.mem_of_mem_drop hb)) hy (bytes_getD hl k) h)

theorem bytes_app {l m : List Nat} (hl : ∀ b ∈ l, b < 256) (hm : ∀ b ∈ m, b < 256) : ∀ b ∈ l ++ m, b < 256 := fun b hb => (List.mem_append.1 hb).elim (hl b) (hm b)
theorem u8s_set (l : List Nat) (k y : Nat) : (u8s l).set k (.int .u8 (y : Int)) = u8s (l.set k y) := by
  simp [u8s, List.map_set]
theorem bytes_set {l : List Nat} {k y : Nat} (hl : ∀ b ∈ l, b < 256) (hy : y < 256) : ∀ b ∈ l.set k y, b < 256 := fun b hb => by
  rcases List.mem_or_eq_of_mem_set hb with h | h
  · exact hl b h
  · omega

set_option maxRecDepth 20000 in
set_option maxHeartbeats 2000000 in
theorem sums_any (l m : List Nat) (A1 A2 : Option Addr) (n1 n2 c1 c2 : Nat) (w : World) (hl : ∀ b ∈ l, b < 256) (hm : ∀ b ∈ m, b < 256) (hn1 : l.length = n1) (hn2 : m.length = n2) (h1m : n1 ≤ 1048576) (h2m : n2 ≤ 1048576) (h1 : Byt w w.heap.size A1 l) (h2 : Byt w w.heap.size A2 m) :
    Calls Try.prog 4 #[.slice A1 n1 c1, .slice A2 n2 c2] w fun e w' => e = .returned (.bool true) ∧ Below w.heap.size w w' := by
  have hl' := Lib.hid hl
  have hm' := Lib.hid hm
  have hn1' := Lib.hid hn1
  have hn2' := Lib.hid hn2
  have h1' := Lib.hid h1
  have h2' := Lib.hid h2
  clear hn1 hn2 h1 h2 hl hm
  go_enter Try.func4, Try.ntmps4
  have kc := fun (w : World) (C : Array Value) (n c : Nat) => Lib.run_convert_bytes_const (P := Try.prog) w 23 5 C n c Try.underlying23 Try.underlying5
  go_wp2_with fail
  refine (crc_any known _ 9 9 (w.heap.size + 1) _ (by decide) rfl (by omega) (by simp) (known_byt w)).mono ?_
  rintro e w1 ⟨rfl, hb1⟩
  rw [known_sum]
  have hB1 : Below w.heap.size w w1 := ((Below.refl _ w).alloc (Nat.le_refl _) _).trans (hb1.mono (by simp))
  clear hb1
  go_wp2_with fail
  refine (crc_any [] none 0 0 0 _ (by simp) rfl (by omega) (by omega) Rd.empty).mono ?_
  rintro e w2 ⟨rfl, hb2⟩
  rw [none_sum]
  have hB2 := hB1.trans (hb2.mono hB1.size)
  clear hB1 hb2
  go_wp2_with fail
  refine (crc_any l A1 n1 c1 w.heap.size _ hl'.out hn1'.out (by omega) hB2.size (h1'.out.below hB2)).mono ?_
  rintro e w3 ⟨rfl, hb3⟩
  have hB3 := hB2.trans (hb3.mono hB2.size)
  clear hB2 hb3
  go_wp2_with fail
  refine (more_any (Crc.more 0 l) m A2 n2 c2 w.heap.size _ (Crc.more_lt _ _) hm'.out hn2'.out (by omega) hB3.size (h2'.out.below hB3)).mono ?_
  rintro e w4 ⟨rfl, hb4⟩
  rw [Crc.more_append hl'.out]
  have hB4 := hB3.trans (hb4.mono hB3.size)
  clear hB3 hb4
  go_wp2_with fail
  refine (joined_any l m A1 A2 n1 n2 c1 c2 w.heap.size _ hn1'.out hn2'.out (by omega) (by omega) (by omega) hB4.size (h1'.out.below hB4) (h2'.out.below hB4)).mono ?_
  rintro e w5 ⟨⟨A5, c5, rfl, o5⟩, hb5⟩
  have hB5 := hB4.trans (hb5.mono hB4.size)
  clear hB4 hb5
  go_wp2_with fail
  refine (crc_any (l ++ m) A5 (n1 + n2) c5 w5.heap.size _ (bytes_app hl'.out hm'.out) (by rw [List.length_append, hn1'.out, hn2'.out]) (by omega) (Nat.le_refl _) o5.byt).mono ?_
  rintro e w6 ⟨rfl, hb6⟩
  have hB6 := hB5.trans (hb6.mono hB5.size)
  clear hB5 hb6 o5
  go_wp2_with fail
  refine (more_any 0 l A1 n1 c1 w.heap.size _ (by decide) hl'.out hn1'.out (by omega) hB6.size (h1'.out.below hB6)).mono ?_
  rintro e w7 ⟨rfl, hb7⟩
  have hB7 := hB6.trans (hb7.mono hB6.size)
  clear hB6 hb7
  go_wp2_with fail
  refine (crc_any l A1 n1 c1 w.heap.size _ hl'.out hn1'.out (by omega) hB7.size (h1'.out.below hB7)).mono ?_
  rintro e w8 ⟨rfl, hb8⟩
  have hB8 := hB7.trans (hb8.mono hB7.size)
  clear hB7 hb8
  by_cases h0 : n1 = 0
  · subst h0
    go_wp2_with fail
    go_ret
    exact ⟨rfl, hB8⟩
  · go_wp2_with fail
    refine (joined_any l [] A1 none n1 0 c1 0 w.heap.size _ hn1'.out rfl (by omega) (by omega) (by omega) hB8.size (h1'.out.below hB8) Rd.empty).mono ?_
    rintro e w9 ⟨⟨A9, c9, rfl, o9⟩, hb9⟩
    rw [List.append_nil] at o9
    have hB9 := hB8.trans (hb9.mono hB8.size)
    have hs8 := hB8.size
    clear hB8 hb9
    obtain ⟨g, rfl⟩ := o9.head (by omega)
    have hbb := bytes_getD hl'.out (n1 / 2)
    have hc := o9.cell (n1 / 2) (by omega)
    rw [u8s_get l (n1 / 2) (by rw [hn1'.out]; omega)] at hc
    have hf := o9.frozen (n1 / 2)
    have hne : (l[n1 / 2]?.getD 0) ^^^ 1 ≠ l[n1 / 2]?.getD 0 := fun h => by
      have := congrArg (fun x => (l[n1 / 2]?.getD 0) ^^^ x) h
      simp [← Nat.xor_assoc] at this
    have hy : (l[n1 / 2]?.getD 0) ^^^ 1 < 256 := Nat.xor_lt_two_pow (n := 8) (by omega) (by omega)
    have hcrc := Lib.hid (crc_set hl'.out (by rw [hn1'.out]; omega) hy hne)
    have hx : bits .xor .u8 ((l[n1 / 2]?.getD 0 : Nat) : Int) 1 = (((l[n1 / 2]?.getD 0) ^^^ 1 : Nat) : Int) := u8_xor_nat (l[n1 / 2]?.getD 0) 1 hbb (by omega)
    have hlt := Lib.hid (bytes_set (k := n1 / 2) hl'.out hy)
    have o9' := o9.set (n1 / 2) (.int .u8 (((l[n1 / 2]?.getD 0) ^^^ 1 : Nat) : Int))
    rw [u8s_set] at o9'
    have hg9 := o9.set_grown (n1 / 2) (.int .u8 (((l[n1 / 2]?.getD 0) ^^^ 1 : Nat) : Int))
    have hgl := o9.lt g rfl
    clear hne
    generalize l[n1 / 2]?.getD 0 = x at *
    generalize x ^^^ 1 = y at *
    have hB10 := hB9.trans (grown_below hg9 hB9.size (by intro k hk; cases hk; have := hB9.size; omega))
    clear hg9 o9
    go_wp2_with fail
    refine (crc_any (l.set (n1 / 2) y) _ n1 c9 w9.heap.size _ hlt.out (by rw [List.length_set, hn1'.out]) (by omega) (by simp) (by have := o9'.byt; simpa using this)).mono ?_
    rintro e w11 ⟨rfl, hb11⟩
    have hB11 := hB10.trans (hb11.mono hB10.size)
    clear hB10 hb11 o9'
    go_wp2_with fail
    refine (crc_any l A1 n1 c1 w.heap.size _ hl'.out hn1'.out (by omega) hB11.size (h1'.out.below hB11)).mono ?_
    rintro e w12 ⟨rfl, hb12⟩
    have hB12 := hB11.trans (hb12.mono hB11.size)
    clear hB11 hb12
    go_wp2_with fail
    go_ret
    refine ⟨ret_bool ?_, hB12⟩
    have := hcrc.out
    simp
    omega

set_option maxRecDepth 100000 in
open Go.ChangeShapes Go.WideShapes in
theorem frameSums_calls {H : Type} {enc : TypeId × Value → H} (W : World) (base : Nat) (v0 v1 : Value) (d0 d1 : DataW H) (p0 p1 : List MemPlace)
    (o0 : Value.okWide Try.prog W .any base 23 v0) (h0 : DataW.Trod enc Try.prog W 0 (fun _ => true) true 23 v0 d0 p0)
    (o1 : Value.okWide Try.prog W .any base 23 v1) (h1 : DataW.Trod enc Try.prog W 0 (fun _ => true) true 23 v1 d1 p1)
    (_hsz : (DataW.weightsEach Try.prog [23, 23] [d0, d1]).all (· ≤ reachBytes) = true) (hup : Rows.uptoSmall H [d0, d1] = true) :
    Calls Try.prog 4 #[v0, v1] W fun e W' => e = .returned (.bool true) ∧ Below W.heap.size W W' := by
  obtain ⟨A1, c1, l, rfl, _, _, r1, hh1, b1⟩ := arg_bytes Try.underlying23 Try.underlying5 (by kernel_rfl) o0 h0
  obtain ⟨A2, c2, m, rfl, _, _, r2, hh2, b2⟩ := arg_bytes Try.underlying23 Try.underlying5 (by kernel_rfl) o1 h1
  have k1 := bulk_held hh1
  have k2 := bulk_held hh2
  have kb : Rows.uptoBulk d0 + (Rows.uptoBulk d1 + 0) ≤ 1048576 := of_decide_eq_true hup
  exact sums_any l m A1 A2 l.length m.length c1 c2 W b1 b2 rfl rfl (by omega) (by omega) r1 r2
end Go.Proofs.Ytjofpjioaiamhaa

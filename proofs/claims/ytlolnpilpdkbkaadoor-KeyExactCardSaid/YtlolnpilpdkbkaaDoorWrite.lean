/- A Hasher takes bytes. -/
import Derived.Test.YtlolnpilpdkbkaaDoorTake
import Derived.Laws.CopyOwn
import Derived.Shelf.Spec.SlicesInsert
namespace Go.Proofs.YtlolnpilpdkbkaaDoor
open Go.RowKit

/-- A slice's length: for a measure. -/
def slen : Value → Nat
  | .slice _ n _ => n
  | _ => 0
/-- s[k:], whatever the room. -/
theorem cut_low {A : Option Addr} {n c : Nat} (k : Nat) (hk : k ≤ n) (hc : n ≤ c) :
    ∃ A' : Option Addr, (∀ w' : World, (Instr.slice 22 (.slice A n c) (some (.int .i64 (k : Int))) none none).run Tryd.prog w' = .ok (.slice A' (n - k) (c - k)) w') ∧
      (∀ (w' : World) (B : Nat) (l : List Nat), l.length = n → Byt w' B A l → Byt w' B A' (l.drop k)) ∧ ∀ g, Off A n g → Off A' (n - k) g := by
  refine ⟨if c = k then A else A.map (·.add k), fun w' => ?_, fun w' B l hl hb => ?_, fun g ho => ho.cut hk hc⟩
  · have hs : (sizeOf (Tryd.prog.elem 22)).run Tryd.prog w' = .ok 1 w' := by kernel_rfl
    rw [run_slice_l w' 22 _ n c (by rw [Tryd.underlying22]; kernel_rfl) .i64 (k : Int) (by omega) (by omega), hs]
    simp only [Result.andThen, sliced, Int.toNat_natCast, Nat.mul_one]
  · subst hl
    have := Rd.cut hb hk hc
    rw [← List.length_drop] at this
    exact this.congr fun j hj => by rw [List.getElem?_drop]
/-- s[:64]. -/
theorem cut_high {A : Option Addr} {n c : Nat} (hk : 64 ≤ n) (hc : n ≤ c) (w' : World) :
    (Instr.slice 22 (.slice A n c) none (some (.int .i64 64)) none).run Tryd.prog w' = .ok (.slice (A.map (·.add 0)) 64 c) w' := by
  have hs : (sizeOf (Tryd.prog.elem 22)).run Tryd.prog w' = .ok 1 w' := by kernel_rfl
  rw [run_slice_h w' 22 _ n c (by rw [Tryd.underlying22]; kernel_rfl) .i64 64 (by omega) (by omega), hs]
  simp only [Result.andThen, sliced, Int.reduceToNat, Nat.zero_mul, Nat.sub_zero]
  rw [if_neg (by omega)]
theorem arrayAt64 (a : Addr) (c : Nat) (w : World) : (Instr.arrayAt 62 (.slice (some a) 64 c)).run Tryd.prog w = .ok (.pointer (some a)) w := by
  simp [Instr.arrayAt, run_underlying Tryd.underlying62]
/-- h.rest[p:] -/
theorem rest_low (g o p : Nat) (hp : p < 64) (w : World) : (Instr.sliceAt 62 (.pointer (some ⟨g, o + 8, none⟩)) (some (.int .i64 (p : Int))) none none).run Tryd.prog w = .ok (.slice (some ⟨g, o + 8 + p, none⟩) (64 - p) (64 - p)) w := by
  have hl : Tryd.prog.arrayLen 62 = 64 := by kernel_rfl
  have he : Tryd.prog.elem 62 = 5 := by kernel_rfl
  have hs : (sizeOf 5).run Tryd.prog w = .ok 1 w := by kernel_rfl
  rw [run_sliceAt_array_l w _ _ (by rw [hl, he]; exact Tryd.underlying62) .i64 (p : Int) (by omega) (by rw [hl]; omega), he, hs, hl]
  simp only [Result.andThen, slicedAt, Int.toNat_natCast, Nat.mul_one]
  rw [if_neg (by omega), Addr.add_lit]
theorem rest_all (g o : Nat) (w : World) : (Instr.sliceAt 62 (.pointer (some ⟨g, o + 8, none⟩)) none none none).run Tryd.prog w = .ok (.slice (some ⟨g, o + 8, none⟩) 64 64) w := by
  have hl : Tryd.prog.arrayLen 62 = 64 := by kernel_rfl
  have he : Tryd.prog.elem 62 = 5 := by kernel_rfl
  have hs : (sizeOf 5).run Tryd.prog w = .ok 1 w := by kernel_rfl
  rw [run_sliceAt_array_all w _ _ (by rw [hl, he]; exact Tryd.underlying62), he, hs, hl]
  simp only [Result.andThen, slicedAt, Nat.zero_mul]
  rw [if_neg (by omega), Addr.add_lit]
/-- copy into some bytes of a block. -/
theorem copy_rest {w : World} {g p : Nat} {b : List Nat} {d c k cb : Nat} {A : Option Addr} {B : Nat} (ty : TypeId) (h : Byt w B A b) (ht : w.there g p (min b.length d)) (hk : k = min b.length d) :
    (Builtin.copy_ #[22, 22] ty #[.slice (some ⟨g, p, none⟩) d c, .slice A b.length cb]).run Tryd.prog w = .ok (.int .i64 (k : Int)) (w.setCells g p (u8s (b.take k))) := by
  have hi : (Tryd.prog.info? 5).map (·.size) = some 1 := by kernel_rfl
  by_cases h0 : k = 0
  · rw [run_copy_none w _ _ _ 5 _ A d c b.length cb Tryd.underlying22 hi (by rw [show Nat.min b.length d = min b.length d from rfl]; omega), h0]
    rfl
  · obtain ⟨b0, off, rfl, hb0, hc⟩ := h (by omega)
    have hl : (u8s (b.take k)).length = k := by simp [u8s]; omega
    rw [run_copy_cells w _ _ _ 5 g p d c ⟨b0, off, none⟩ b.length cb (u8s (b.take k)) Tryd.underlying22 hi (by rw [hl]; exact hk) (fun j v hv => by
      rw [Addr.add_lit]
      have hj : j < k := by rw [← hl]; exact (List.getElem?_eq_some_iff.1 hv).1
      rw [hc j (by omega), ← hv]
      simp [u8s, hj, show j < b.length by omega]) (fun j hj => (ht j (by omega)).1) (fun j hj => (ht j (by omega)).2) (fun v hv => by
      obtain ⟨x, _, rfl⟩ := List.mem_map.1 hv
      rfl), hl]
    rfl

/-- A Hasher behind q blocks of M. -/
def Hash (w : World) (g o : Nat) (ks M : List Nat) (q : Nat) (rs : List Nat) (n : Nat) : Prop := ∃ st bg, HR w g o st rs n bg ∧ (if bg = true then st else startL) = foldB ks M q
/-- A Hasher that has taken m. -/
def Has (w : World) (g o : Nat) (ks m : List Nat) : Prop := ∃ rs, Hash w g o ks m (m.length / 64) rs m.length ∧ rs.take (m.length % 64) = m.drop (64 * (m.length / 64))

theorem Hash.lt {w : World} {g o q n : Nat} {ks M rs : List Nat} (h : Hash w g o ks M q rs n) : g < w.heap.size := by
  obtain ⟨st, bg, h, _⟩ := h
  exact h.lt
theorem take_hash {w : World} {g o n q : Nat} {ks M rs : List Nat} (b : List Nat) (h : Hash w g o ks M q rs n) (hT : Tab w ks) (hk : ks.length = 64) (hkl : ∀ x ∈ ks, x < 4294967296)
    (hM : ∀ x ∈ M, x < 256) (hb : b = blk M q) (hq : 64 * q + 64 ≤ M.length) :
    Calls Tryd.prog 38 #[.pointer (some ⟨g, o, none⟩), .agg (u8s b).toArray] w fun e w' => (∃ v, e = .returned v) ∧ Hash w' g o ks M (q + 1) rs n ∧ Chg w w' g o 74 := by
  obtain ⟨st, bg, h, hs⟩ := h
  subst hb
  refine (take_any w ks (blk M q) (foldB ks M q) hs h hT hk hkl (foldB_length _ _ _) (foldB_lt _ _ _) (blk_lt hM q) (blk_length hq)).mono ?_
  rintro e w' ⟨hv, h', hc⟩
  exact ⟨hv, ⟨_, _, h', by rw [if_pos rfl]; rfl⟩, hc⟩

theorem laid_take {rs b m : List Nat} {p D : Nat} (h : rs.take p = m.drop D) (hD : D ≤ m.length) (hp : p ≤ rs.length) : (laid rs p b).take (p + b.length) = (m ++ b).drop D := by
  unfold laid
  rw [List.drop_append_of_le_length hD, ← h, List.take_append, List.take_append]
  have e1 : (rs.take p).take (p + b.length) = rs.take p := List.take_of_length_le (by simp; omega)
  have e2 : p + b.length - (rs.take p).length = b.length := by simp; omega
  rw [e1, e2, List.take_length, Nat.sub_self, List.take_zero, List.append_nil]
theorem laid_blk {rs b m : List Nat} {p q : Nat} (h : rs.take p = m.drop (64 * q)) (hD : 64 * q ≤ m.length) (hp : p ≤ 64) (hr : rs.length = 64) (hb : 64 - p ≤ b.length) : laid rs p (b.take (64 - p)) = blk (m ++ b) q := by
  have hl : (rs.take p).length = p := by simp; omega
  unfold laid blk
  have hbl : (b.take (64 - p)).length = 64 - p := by simp; omega
  rw [hbl, show p + (64 - p) = 64 by omega, List.drop_of_length_le (by omega), List.append_nil, List.drop_append_of_le_length hD, ← h, List.take_append, hl]
  rw [List.take_of_length_le (l := rs.take p) (by omega)]

/-- What stands while whole blocks are taken: l is left. -/
structure LP (w wr : World) (g o : Nat) (ks M : List Nat) (n q : Nat) (rs l : List Nat) (A : Option Addr) (len : Nat) : Prop where
  dr : M.drop (64 * q) = l
  le : 64 * q ≤ M.length
  ln : l.length = len
  hash : Hash wr g o ks M q rs n
  chg : Chg w wr g o 74
  byt : Byt wr w.heap.size A l
  off : Off A len g
theorem LP.blk {w wr : World} {g o n q len : Nat} {ks M rs l : List Nat} {A : Option Addr} (h : LP w wr g o ks M n q rs l A len) : l.take 64 = blk M q := by rw [← h.dr]; rfl
theorem LP.next {w wr w' : World} {g o n q len : Nat} {ks M rs l : List Nat} {A A' : Option Addr} (h : LP w wr g o ks M n q rs l A len) (h64 : 64 ≤ len) (hh : Hash w' g o ks M (q + 1) rs n) (hc : Chg wr w' g o 74)
    (hb : Byt w' w.heap.size A' (l.drop 64)) (ho : Off A' (len - 64) g) : LP w w' g o ks M n (q + 1) rs (l.drop 64) A' (len - 64) where
  dr := by rw [← h.dr, List.drop_drop, Nat.mul_add]
  le := by
    have h1 := h.ln
    rw [← h.dr, List.length_drop] at h1
    omega
  ln := by rw [List.length_drop, h.ln]
  hash := hh
  chg := h.chg.trans hc
  byt := hb
  off := ho

set_option maxRecDepth 100000 in
set_option maxHeartbeats 2000000 in
theorem write_any (w : World) {g o : Nat} (ks m b : List Nat) (A : Option Addr) (c : Nat) (h : Has w g o ks m) (hT : Tab w ks) (hg : 3 ≠ g) (hk : ks.length = 64) (hkl : ∀ x ∈ ks, x < 4294967296)
    (hm : ∀ x ∈ m, x < 256) (hb : ∀ x ∈ b, x < 256) (hA : Byt w w.heap.size A b) (hO : Off A b.length g) (hc : b.length ≤ c) (hcm : c ≤ 9223372036854775807) (hn : m.length + b.length < 18446744073709551616) :
    Calls Tryd.prog 29 #[.pointer (some ⟨g, o, none⟩), .slice A b.length c] w fun e w' => (∃ v, e = .returned v) ∧ Has w' g o ks (m ++ b) ∧ Chg w w' g o 74 := by
  obtain ⟨rs, ⟨st, bg, hH, hst⟩, hrs⟩ := h
  have hM : ∀ x ∈ m ++ b, x < 256 := fun x hx => (List.mem_append.1 hx).elim (hm x) (hb x)
  have hMl : (m ++ b).length = m.length + b.length := List.length_append
  generalize hN : m.length = N at *
  generalize hL : b.length = L at *
  have c0 := hH.cn
  have c0f := hH.fr (o + 72)
  have hH1 := hH.setN (N + L)
  rw [Int.natCast_add] at hH1
  have hC1 : Chg w (w.setCell ⟨g, o + 72, none⟩ (.int .u64 ((N : Int) + (L : Int)))) g o 74 := Chg.cell1 w g (by omega) (by omega)
  have hA1 := hA.chg hC1 (by rw [hL]; exact hO)
  have hH1' := Lib.hid hH1
  have hC1' := Lib.hid hC1
  have hA1' := Lib.hid hA1
  have hst' : Hid (∀ _ : Unit, (if bg = true then st else startL) = foldB ks (m ++ b) (N / 64)) := Lib.hid fun _ => by rw [foldB_append ks (by rw [hN]; omega)]; exact hst
  have hrs' : Hid (∀ _ : Unit, rs.take (N % 64) = m.drop (64 * (N / 64))) := Lib.hid fun _ => hrs
  have hrl' := Lib.hid hH.l2
  have hT' := Lib.hid hT
  have hk' := Lib.hid hk
  have hkl' := Lib.hid hkl
  have hM' := Lib.hid hM
  have hMl' := Lib.hid hMl
  have hO' := Lib.hid hO
  have hN' := Lib.hid hN
  have hL' := Lib.hid hL
  have hwr : IntKind.u64.wrap ((N : Int) + (L : Int)) = (N : Int) + (L : Int) := by rw [IntKind.wrap_u64]; omega
  have hwr2 : ((N : Int) + (L : Int)) % 18446744073709551616 = (N : Int) + (L : Int) := by omega
  have hcases : N % 64 = 0 ∨ (N % 64 ≠ 0 ∧ N % 64 + L < 64) ∨ (N % 64 ≠ 0 ∧ 64 ≤ N % 64 + L) := by omega
  obtain ⟨p, hp⟩ : ∃ p, Hid (∀ _ : Unit, N % 64 = p) := ⟨_, Lib.hid fun _ => rfl⟩
  have hpm : (N : Int) % 64 = (p : Int) := by have := hp.out (); omega
  have hp64 : p < 64 := by have := hp.out (); omega
  rw [hp.out ()] at hcases hrs'
  clear hm hb hA hO hH hst hrs hH1 hC1 hA1 hT hk hkl hM hMl hN hL
  rcases hcases with h0 | ⟨h0, h1⟩ | ⟨h0, h1⟩
  case' inr.inl =>
    have hp0 : (0 : Int) < (p : Int) := by omega
    have hsl := rest_low g o p hp64
    have hkk : L = min b.length (64 - p) := by rw [hL'.out]; omega
    have hth := hH1'.out.there2 (p := p) (k := min b.length (64 - p)) (by omega)
    have hth' := Lib.hid hth
    have hLL : b.length = L := hL'.out
    have hcp := copy_rest (d := 64 - p) (c := 64 - p) (cb := c) 3 hA1'.out hth hkk
    rw [hLL] at hcp
    obtain ⟨A', hcut, -, -⟩ := cut_low (A := A) (n := L) (c := c) L (Nat.le_refl _) hc
    have hle : (L : Int) ≤ (L : Int) := Int.le_refl _
    have hx2 : (p : Int) + (L : Int) < 64 := by omega
    clear hth hkk hth' hLL
    go_enter Tryd.func29, Tryd.ntmps29
    go_wp2_with (first
      | (refine wpList_copy_runI _ rfl _ _ _ _ rfl _ _ rfl rfl hcp ?_))
    have hbt : b.take L = b := by rw [← hL'.out]; exact List.take_length
    rw [hbt]
    have hset := hH1'.out.setRs (p := p) (b := b) (by rw [hL'.out]; omega)
    have hpp := hp.out ()
    refine bodyPost_ret (results_none rfl _ _ _) rfl ⟨⟨_, rfl⟩, ?_, hC1'.out.trans (Chg.cells _ g (by omega) (by rw [show (u8s b).length = b.length by simp [u8s], hL'.out]; omega))⟩
    have hlt := laid_take (b := b) (hrs'.out ()) (by rw [hN'.out]; omega) (by rw [hrl'.out]; omega)
    rw [hL'.out] at hlt
    unfold Has
    rw [hMl'.out, show (N + L) / 64 = N / 64 by omega, show (N + L) % 64 = p + L by omega]
    exact ⟨_, ⟨st, bg, hset, hst'.out ()⟩, hlt⟩
  case' inl =>
    subst h0
    have hLP : Hid (∃ q rs2 l, LP w (w.setCell ⟨g, o + 72, none⟩ (.int .u64 ((N : Int) + (L : Int)))) g o ks (m ++ b) (N + L) q rs2 l A L) :=
      Lib.hid ⟨N / 64, rs, b, ⟨by
        have hpp := hp.out ()
        rw [show 64 * (N / 64) = m.length by rw [hN'.out]; omega, List.drop_left], by rw [hMl'.out]; omega, hL'.out, ⟨st, bg, hH1'.out, hst'.out ()⟩, hC1'.out, hA1'.out, hO'.out⟩⟩
    clear hA1' hC1' hH1' hst' hrs' hrl'
    go_enter Tryd.func29, Tryd.ntmps29
    go_wp2_with fail
    generalize (w.setCell ⟨g, o + 72, none⟩ (.int .u64 ((N : Int) + (L : Int)))) = w5 at hLP ⊢
  case' inr.inr =>
    obtain ⟨k, hkk, hkv⟩ : ∃ k, k = 64 - p ∧ k = min b.length (64 - p) := ⟨64 - p, rfl, by rw [hL'.out]; omega⟩
    have hp0 : (0 : Int) < (p : Int) := by omega
    have hsl := rest_low g o p hp64
    have hth := hH1'.out.there2 (p := p) (k := min b.length (64 - p)) (by omega)
    have hLL : b.length = L := hL'.out
    have hcp := copy_rest (d := 64 - p) (c := 64 - p) (cb := c) 3 hA1'.out hth hkv
    rw [hLL] at hcp
    obtain ⟨A', hcut, hcb, hco⟩ := cut_low (A := A) (n := L) (c := c) k (by omega) hc
    have hcb' := Lib.hid hcb
    have hco' := Lib.hid hco
    have hle : (k : Int) ≤ (L : Int) := by omega
    have hx2 : ¬ (p : Int) + (k : Int) < 64 := by omega
    have hbt : (b.take k).length = k := by simp; omega
    have hset := hH1'.out.setRs (p := p) (b := b.take k) (by rw [hbt]; omega)
    have hset' := Lib.hid hset
    have hlb := laid_blk (b := b) (hrs'.out ()) (by rw [hN'.out]; omega) (by omega) hrl'.out (by rw [hLL]; omega)
    rw [← hkk] at hlb
    have hlb' : Hid (∀ _ : Unit, laid rs p (b.take k) = blk (m ++ b) (N / 64)) := Lib.hid fun _ => hlb
    have hCs : Chg w ((w.setCell ⟨g, o + 72, none⟩ (.int .u64 ((N : Int) + (L : Int)))).setCells g (o + 8 + p) (u8s (b.take k))) g o 74 :=
      hC1'.out.trans (Chg.cells _ g (by omega) (by rw [show (u8s (b.take k)).length = (b.take k).length by simp [u8s], hbt]; omega))
    have hCs' := Lib.hid hCs
    have hTs := Lib.hid (hT'.out.chg hCs hg)
    have hAs := Lib.hid (hA1'.out.chg (Chg.cells (m := 74) (o := o) (p := o + 8 + p) (vs := u8s (b.take k)) _ g (by omega) (by rw [show (u8s (b.take k)).length = (b.take k).length by simp [u8s], hbt]; omega)) (by rw [hLL]; exact hO'.out))
    have hi64 : (Tryd.prog.info? 62).map (·.size) = some 64 := by kernel_rfl
    have hi64' := Lib.hid hi64
    have hrl2 : (u8s (laid rs p (b.take k))).length = 64 := by
      have := hset.l2
      simpa [u8s] using this
    have hNL : Hid (64 * (N / 64) + 64 ≤ (m ++ b).length) := Lib.hid (by
      have := hp.out ()
      rw [hMl'.out]; omega)
    have hdr : Hid (∀ _ : Unit, (m ++ b).drop (64 * (N / 64 + 1)) = b.drop k) := Lib.hid fun _ => by
      have hpp := hp.out ()
      have e1 : 64 * (N / 64 + 1) = m.length + k := by rw [hN'.out]; omega
      rw [e1, ← List.drop_drop, List.drop_left]
    have hkL : k ≤ L := by omega
    have hk64 : k ≤ 64 := by omega
    clear hth hLL hkv hcb hco hbt hset hlb hCs hi64 hkk
    go_enter Tryd.func29, Tryd.ntmps29
    go_wp2_with (first
      | (refine wpList_copy_runI _ rfl _ _ _ _ rfl _ _ rfl rfl hcp ?_)
      | (refine wpList_load_mid rfl 62 _ rfl g (o + 8) rfl (u8s (laid rs p (b.take k))) _ hset'.out.crs Tryd.underlying62 rfl (by rw [hrl2]; exact hi64'.out) ?_))
    refine (take_hash (laid rs p (b.take k)) ⟨st, bg, hset'.out, hst'.out ()⟩ hTs.out hk'.out hkl'.out hM'.out (hlb'.out ()) hNL.out).mono ?_
    rintro e w5 ⟨⟨v, rfl⟩, hh5, hc5⟩
    have hLP : Hid (∃ q rs2 l, LP w w5 g o ks (m ++ b) (N + L) q rs2 l A' (L - k)) :=
      Lib.hid ⟨N / 64 + 1, _, b.drop k, ⟨hdr.out (), by have := hNL.out; omega, by rw [List.length_drop, hL'.out], hh5, hCs'.out.trans hc5, hcb'.out _ _ _ hL'.out (hAs.out.chg hc5 (by rw [hL'.out]; exact hO'.out)), hco'.out g hO'.out⟩⟩
    clear hh5 hc5 hdr hNL hrl2 hi64' hAs hTs hCs' hlb' hset' hcb' hco' hcut hcp hsl hA1' hC1' hH1' hst' hrs' hrl'
    go_wp2_with fail
  all_goals (
    clear hpm hwr hwr2
    go_loopw [1] (fun v wr => ∃ q rs2 l A2 n2 c2, v = .slice A2 n2 c2 ∧ n2 ≤ c2 ∧ c2 ≤ 9223372036854775807 ∧ Hid (LP w wr g o ks (m ++ b) (N + L) q rs2 l A2 n2)) (fun v _ => slen v)
    case atStart =>
      obtain ⟨q, rs2, l, hLP⟩ := hLP.out
      exact ⟨q, rs2, l, _, _, _, rfl, by omega, by omega, Lib.hid hLP⟩
    case round =>
      clear hLP
      obtain ⟨q, rs2, l, A2, n2, c2, rfl, hc2, hcm2, hP⟩ := hrel
      by_cases h64 : 64 ≤ n2
      · have hln := hP.out.ln
        obtain ⟨b0, off, rfl, hb0, hcell⟩ := hP.out.byt (by rw [hln]; omega)
        have hsl1 := cut_high (A := some ⟨b0, off, none⟩) (n := n2) (c := c2) h64 hc2
        have e0 : Option.map (fun x : Addr => x.add 0) (some (⟨b0, off, none⟩ : Addr)) = some ⟨b0, off, none⟩ := by simp [Addr.add_lit]
        simp only [e0] at hsl1
        have harr := arrayAt64 ⟨b0, off, none⟩ c2
        obtain ⟨A3, hcut, hcb, hco⟩ := cut_low (A := some ⟨b0, off, none⟩) (n := n2) (c := c2) 64 h64 hc2
        simp only [Int.cast_ofNat_Int] at hcut
        have hcb' := Lib.hid hcb
        have hco' := Lib.hid hco
        have hrg : wr.rangeAt b0 off (u8s (l.take 64)) := fun j v hv => by
          have hj := (List.getElem?_eq_some_iff.1 hv).1
          have hj2 : j < 64 ∧ j < l.length := by simp [u8s] at hj; omega
          rw [hcell j hj2.2, ← hv]
          simp [u8s, hj2.1, hj2.2]
        have hrg' := Lib.hid hrg
        have hi64 : (Tryd.prog.info? 62).map (·.size) = some 64 := by kernel_rfl
        have hi64' := Lib.hid hi64
        have hrl2 : (u8s (l.take 64)).length = 64 := by simp [u8s, hln]; omega
        have hqM : Hid (64 * q + 64 ≤ (m ++ b).length) := Lib.hid (by
          have h1 := hP.out.dr
          have h2 := congrArg List.length h1
          rw [List.length_drop, hln] at h2
          omega)
        clear e0 hcb hco hrg hi64 hcell
        go_wp2_with (first
          | (refine wpList_load_mid rfl 62 _ rfl b0 off rfl (u8s (l.take 64)) _ hrg'.out Tryd.underlying62 rfl (by rw [hrl2]; exact hi64'.out) ?_))
        refine (take_hash (l.take 64) hP.out.hash (hT'.out.chg hP.out.chg hg) hk'.out hkl'.out hM'.out hP.out.blk hqM.out).mono ?_
        rintro e w6 ⟨⟨v, rfl⟩, hh6, hc6⟩
        have hP6 := Lib.hid (hP.out.next h64 hh6 hc6 (hcb'.out _ _ _ hln (hP.out.byt.chg hc6 (by rw [hln]; exact hP.out.off))) (hco'.out g hP.out.off))
        clear hh6 hc6 hrl2 hrg' hqM hcb' hco'
        go_wp2_with fail
        go_roundw
        case rel => exact ⟨q + 1, rs2, _, A3, n2 - 64, c2 - 64, rfl, by omega, by omega, hP6⟩
        case measure => simp [slen]; omega
      · have hln := hP.out.ln
        obtain ⟨st9, bg9, hH9, hs9⟩ := hP.out.hash
        have hH9' := Lib.hid hH9
        have hs9' : Hid (∀ _ : Unit, (if bg9 = true then st9 else startL) = foldB ks (m ++ b) q) := Lib.hid fun _ => hs9
        have hra := rest_all g o
        have hcp := copy_rest (w := wr) (g := g) (p := o + 8) (d := 64) (c := 64) (cb := c2) (k := n2) 3 hP.out.byt (hH9.there2 (p := 0) (by omega)) (by omega)
        rw [hln] at hcp
        clear hH9 hs9
        go_wp2_with (first
          | (refine wpList_copy_runI _ rfl _ _ _ _ rfl _ _ rfl rfl hcp ?_))
        have hlt : l.take n2 = l := by rw [← hln]; exact List.take_length
        rw [hlt]
        have hset := hH9'.out.setRs (p := 0) (b := l) (by omega)
        go_end0
        refine ⟨⟨_, rfl⟩, ?_, hP.out.chg.trans (Chg.cells _ g (by omega) (by rw [show (u8s l).length = l.length by simp [u8s]]; omega))⟩
        have h2 := congrArg List.length hP.out.dr
        rw [List.length_drop, hln, hMl'.out] at h2
        have h3 := hP.out.le
        rw [hMl'.out] at h3
        unfold Has
        rw [hMl'.out, show (N + L) / 64 = q by omega, show (N + L) % 64 = n2 by omega]
        refine ⟨_, ⟨st9, bg9, hset, hs9'.out ()⟩, ?_⟩
        rw [hP.out.dr, laid, List.take_zero, List.nil_append, List.take_append_of_le_length (by omega), hlt])
end Go.Proofs.YtlolnpilpdkbkaaDoor

/- The program's Open of a filter. (Printed by tools/genwopen.py.) -/
import Derived.Test.YtlghgfnkckaebaaWFlt
import Derived.Test.YtlghgfnkckaebaaWTk
import Derived.Test.YtlghgfnkckaebaaWApp
import Derived.Deep.RegionHeld3
namespace Go.Proofs.Ytlghgfnkckaebaa
open Go.RowKit
set_option linter.unusedSimpArgs false
set_option linter.unusedVariables false

theorem opens_any (w : World) (A : Option Addr) (l : List Nat) (n c : Nat) (hn : l.length = n) (hb : Byt w w.heap.size A l) (hA : A = none → l = []) (hs : n ≤ 140737488355328) (h256 : ∀ x ∈ l, x < 256) :
    Calls Try.prog 40 #[.slice A n c] w (OpenPost w l) := by
  cases A with
  | some a => exact open_any w a l n c hn hb hs h256
  | none =>
    obtain rfl := hA rfl
    obtain rfl : n = 0 := hn.symm
    have hbd := buildD
    have hcl := Lib.hid (bytes_Clone_nil 0 c w)
    go_enter Try.func40, Try.ntmps40
    go_wp2_with (go_at_call 68; refine hcl.out.mono ?_; rintro e w2 ⟨rfl, rfl⟩)
    go_ret
    have hba : Below w2.heap.size w2 (w2.alloc (.cells #[.slice none 0 0, .int .i64 0, .pointer none] 107)) := (Below.refl _ _).alloc (Nat.le_refl _) _
    refine ⟨⟨w2.heap.size, none, 0, rfl, Nat.le_refl _, ⟨heap_alloc_new w2 _, fun hn => absurd hn (by simp), (fun e => by cases e), Nat.le_refl _, ⟨Nat.le_refl _, by simp⟩, by simp, fun j hj => by cases hj⟩, fun j hj => by cases hj⟩, hba⟩
theorem DecAt.low {w w' : World} {g k c T0 : Nat} {A f : Option Addr} {l : List Nat} (h : DecAt w g A c l k f) (hb : Below T0 w w') (hg : g < T0) (hA : ∀ j, blockOf A = some j → j < T0) : DecAt w' g A c l k f := by
  refine ⟨(hb.block g hg).trans h.blk, fun hn => ?_, h.off, h.le, h.cap, h.lt, fun j hj => Nat.lt_of_lt_of_le (h.ab j hj) hb.size⟩
  obtain ⟨b, off, e, hbl, hc⟩ := h.byt hn
  exact ⟨b, off, e, Nat.lt_of_lt_of_le hbl hb.size, fun j hj => (hb.cell (p := ⟨b, off + j, none⟩) (hA b (by rw [e]; rfl))).trans (hc j hj)⟩
/-- The words of a filter's bytes. -/
def wordsQ (l : List Nat) (n : Nat) : List Nat := (List.range n).map fun k => leN ((l.drop (3 + 8 * k)).take 8)
theorem wordsQ_length (l : List Nat) (n : Nat) : (wordsQ l n).length = n := by simp [wordsQ]
theorem wordsQ_take (l : List Nat) (n k : Nat) (hk : k < n) : (wordsQ l n).take (k + 1) = (wordsQ l n).take k ++ [leN ((l.drop (3 + 8 * k)).take 8)] := by
  have h : (wordsQ l n)[k]? = some (leN ((l.drop (3 + 8 * k)).take 8)) := by simp [wordsQ, hk]
  rw [List.take_add_one, h]
  rfl
theorem wordsQ_lt (l : List Nat) (n : Nat) (h : ∀ x ∈ l, x < 256) : ∀ x ∈ wordsQ l n, x < 18446744073709551616 := fun x hx => by
  obtain ⟨k, _, rfl⟩ := List.mem_map.1 hx
  have h1 := leN_lt ((l.drop (3 + 8 * k)).take 8) fun z hz => h z (List.mem_of_mem_drop (List.mem_of_mem_take hz))
  have h2 : 256 ^ ((l.drop (3 + 8 * k)).take 8).length ≤ 256 ^ 8 := Nat.pow_le_pow_right (by decide) (by rw [List.length_take]; omega)
  have h3 : (256 : Nat) ^ 8 = 18446744073709551616 := by decide
  omega
theorem Own.rowU {w : World} {B B' n c : Nat} {A : Option Addr} {l : List Nat} (h : Own w B 77 1 A n c (u64s l)) (hn : l.length = n) (hB : B' ≤ B) : RowU w B' A l := ⟨fun hp => by
  obtain ⟨_, h⟩ := h
  rcases h with ⟨_, h0⟩ | ⟨g, cap, cur, hv, hg, hc, _, _, _, ht⟩
  · omega
  · injection hv with hv
    refine ⟨g, cur.toList.drop (n * 1), hv, Nat.le_trans hB hg, ?_⟩
    rw [hc, ← ht, List.take_append_drop]⟩
/-- Are these a filter's bytes? -/
def okF (l : List Nat) : Prop := 3 ≤ l.length ∧ 1 ≤ l[0]?.getD 0 ∧ l[0]?.getD 0 ≤ 16 ∧ 1 ≤ l[1]?.getD 0 + 256 * l[2]?.getD 0 ∧ l[1]?.getD 0 + 256 * l[2]?.getD 0 ≤ 16384 ∧ l.length = 3 + 8 * (l[1]?.getD 0 + 256 * l[2]?.getD 0)
instance (l : List Nat) : Decidable (okF l) := by unfold okF; infer_instance
def headM (l : List Nat) : Nat × Nat × DSt := ((fixM l 1 (some 0)).1, (fixM l 2 (fixM l 1 (some 0)).2).1, (fixM l 2 (fixM l 1 (some 0)).2).2)
theorem headM_long {l : List Nat} (h : 3 ≤ l.length) : headM l = (l[0]?.getD 0, l[1]?.getD 0 + 256 * l[2]?.getD 0, some 3) := by
  match l, h with
  | a :: b :: c :: r, _ =>
    simp [headM, fixM, rawM, leN]
theorem headM_short {l : List Nat} (h : l.length < 3) : (headM l).2.1 = 0 := by
  match l, h with
  | [], _ => simp [headM, fixM, rawM, leN]
  | [a], _ => simp [headM, fixM, rawM, leN]
  | [a, b], _ => simp [headM, fixM, rawM, leN]
theorem el64 : ElemOk Try.prog 53 77 (.int .u64 0) 1 8 := ⟨Try.underlying53, by kernel_rfl, rfl, by decide⟩
theorem buildFl (h : Int) (w : World) : (Instr.build 55 #[(1, .int .i64 h)]).run Try.prog w = .ok (.agg #[.slice none 0 0, .int .i64 h]) w := run_build w _ _ _ (by kernel_rfl)
/-- What Open answers. -/
def OpnP (w : World) (l : List Nat) (e : Ending) (w' : World) : Prop :=
  ((okF l ∧ ∃ g A c, e = .returned (.tuple #[.pointer (some ⟨g, 0, none⟩), .int .i64 0]) ∧ Flt w' w.heap.size g A c (wordsQ l (l[1]?.getD 0 + 256 * l[2]?.getD 0)) (l[0]?.getD 0)) ∨
   (¬ okF l ∧ e = .returned (.tuple #[.pointer none, .int .i64 72]))) ∧ Below w.heap.size w w'
theorem ok_iff {l : List Nat} {H W : Nat} {s2 : DSt} (h : headM l = (H, W, s2)) : okF l ↔ (shp ((W : Int) * 64) (H : Int) ∧ leftM l.length s2 = W * 8) := by
  rcases Nat.lt_or_ge l.length 3 with h3 | h3
  · have h0 := headM_short h3
    rw [h] at h0
    have h0 : W = 0 := h0
    subst h0
    constructor
    · intro q
      have := q.1
      omega
    · rintro ⟨q, _⟩
      have := q.1
      omega
  · have h0 := headM_long h3
    rw [h] at h0
    simp only [Prod.mk.injEq] at h0
    obtain ⟨rfl, rfl, rfl⟩ := h0
    have hl : leftM l.length (some 3) = l.length - 3 := rfl
    rw [hl]
    unfold okF shp
    generalize l[1]?.getD 0 + 256 * l[2]?.getD 0 = W
    constructor
    · rintro ⟨q1, q2, q3, q4, q5, q6⟩
      refine ⟨⟨by omega, by omega, by omega, by omega, by omega⟩, by omega⟩
    · rintro ⟨⟨q1, q2, q3, q4, q5⟩, q6⟩
      refine ⟨h3, by omega, by omega, by omega, by omega, by omega⟩
theorem head_lt {l : List Nat} {H W : Nat} {s2 : DSt} (h : headM l = (H, W, s2)) (h256 : ∀ x ∈ l, x < 256) : H < 256 ∧ W < 65536 := by
  have hg : ∀ i : Nat, l[i]?.getD 0 < 256 := fun i => by
    cases hi : l[i]? with
    | none => show (0 : Nat) < 256; omega
    | some x => exact h256 x (List.mem_of_getElem? hi)
  have h0 := hg 0
  have h1 := hg 1
  have h2 := hg 2
  rcases Nat.lt_or_ge l.length 3 with h3 | h3
  · match l, h3 with
    | [], _ => simp [headM, fixM, rawM, leN] at h; omega
    | [a], _ => simp [headM, fixM, rawM, leN] at h h0; omega
    | [a, b], _ => simp [headM, fixM, rawM, leN] at h h0; omega
  · have h4 := headM_long h3
    rw [h] at h4
    simp only [Prod.mk.injEq] at h4
    omega
set_option maxRecDepth 20000 in
theorem clip_any (A : Option Addr) (n c : Nat) (h : n ≤ c) (hn : n ≤ 140737488355328) (w : World) : Calls Try.prog 46 #[.slice A n c] w fun e w' => e = .returned (.slice A n n) ∧ w = w' := by
  go_enter Try.func46, Try.ntmps46
  go_wp2_with fail
  go_ret
  exact ⟨rfl, rfl⟩
set_option maxRecDepth 100000 in
set_option maxHeartbeats 8000000 in
theorem fopen_any (w : World) (A : Option Addr) (l : List Nat) (n c : Nat) (hn : l.length = n) (hb : Byt w w.heap.size A l) (hA : A = none → l = []) (hs : n ≤ 140737488355328) (h256 : ∀ x ∈ l, x < 256) :
    Calls Try.prog 20 #[.slice A n c] w (OpnP w l) := by
  have hop := Lib.hid (opens_any w A l n c hn hb hA hs h256)
  have hbf := buildFl
  obtain ⟨H, W, s2, hHW⟩ : ∃ H W s2, headM l = (H, W, s2) := ⟨_, _, _, rfl⟩
  obtain ⟨s1, hs1⟩ : ∃ s1, (fixM l 1 (some 0)).2 = s1 := ⟨_, rfl⟩
  have hHb := (head_lt hHW h256).1
  have hWb := (head_lt hHW h256).2
  have hiff := Lib.hid (ok_iff hHW)
  have hH : (fixM l 1 (some 0)).1 = H := congrArg (·.1) hHW
  have hW : (fixM l 2 s1).1 = W := by rw [← hs1]; exact congrArg (·.2.1) hHW
  have hS2 : (fixM l 2 s1).2 = s2 := by rw [← hs1]; exact congrArg (·.2.2) hHW
  have hT1 : Hid (∀ W0 gd Ad cd, DecS W0 gd Ad cd l (some 0) → Calls Try.prog 41 #[.pointer (some ⟨gd, 0, none⟩)] W0 fun e w' => e = .returned (.int .u8 (H : Int)) ∧ DecS w' gd Ad cd l s1 ∧ W0.grownBy w' (some gd)) := Lib.hid fun W0 gd Ad cd hD => by
    have := takeuint8_any hD
    unfold Takeuint8Post at this
    rwa [hH, hs1] at this
  have hT2 : Hid (∀ W0 gd Ad cd, DecS W0 gd Ad cd l s1 → Calls Try.prog 42 #[.pointer (some ⟨gd, 0, none⟩)] W0 fun e w' => e = .returned (.int .u16 (W : Int)) ∧ DecS w' gd Ad cd l s2 ∧ W0.grownBy w' (some gd)) := Lib.hid fun W0 gd Ad cd hD => by
    have := takeuint16_any hD
    unfold Takeuint16Post at this
    rwa [hW, hS2] at this
  have w1 : IntKind.i64.wrap ((W : Int) * 64) = (W : Int) * 64 := by rw [IntKind.wrap_i64]; omega
  obtain ⟨LL, hLL⟩ : ∃ LL, leftM l.length s2 = LL := ⟨_, rfl⟩
  have hlf : Hid (∀ W0 gd Ad cd, DecS W0 gd Ad cd l s2 → Calls Try.prog 44 #[.pointer (some ⟨gd, 0, none⟩)] W0 fun e w' => e = .returned (.int .i64 (LL : Int)) ∧ ∃ n, w' = W0.drewN n) := Lib.hid fun W0 gd Ad cd hD => by
    have := left_dec hD
    rwa [hLL] at this
  rw [hLL] at hiff
  have e8 : ((W : Int) * 64).tdiv 8 = ((W * 8 : Nat) : Int) := by
    rw [Int.tdiv_eq_ediv_of_nonneg (by omega)]
    omega
  have hHW' := Lib.hid hHW
  have h256' := Lib.hid h256
  clear hH hW hS2 hLL hs1 hb hA hHW h256
  by_cases hsh : shp ((W : Int) * 64) (H : Int)
  · have hshp : Hid (∀ W0, Calls Try.prog 43 #[.int .i64 ((W : Int) * 64), .int .i64 (H : Int)] W0 fun e w' => e = .returned (.bool true) ∧ W0 = w') := Lib.hid fun W0 => by
      have := shaped_any ((W : Int) * 64) (H : Int) W0
      rwa [decide_eq_true hsh] at this
    by_cases hle : LL = W * 8
    · have hyes : Hid (okF l) := Lib.hid (hiff.out.2 ⟨hsh, hle⟩)
      have q1 : ((LL : Int) != ((W * 8 : Nat) : Int)) = false := by simp; omega
      have q2 : ((LL : Int) != (W : Int) * 8) = false := by simp; omega
      clear hle hsh
      have h3 := headM_long hyes.out.1
      rw [hHW'.out] at h3
      simp only [Prod.mk.injEq] at h3
      obtain ⟨hH0, hW0, rfl⟩ := h3
      have hH0' := Lib.hid hH0.symm
      have hW0' := Lib.hid hW0.symm
      have hlen : Hid (l.length = 3 + 8 * W) := Lib.hid (by have := hyes.out.2.2.2.2.2; omega)
      clear hH0 hW0
      go_enter Try.func20, Try.ntmps20
      go_wp2_with (first
        | (go_at_call 40; refine hop.out.mono ?_; rintro e w1 ⟨⟨gd, Ad, cd, rfl, hge, hD, hAd⟩, hb⟩; have hD1 := Lib.hid hD; have hb1 := Lib.hid hb; have hge1 := Lib.hid hge; have hAd1 := Lib.hid hAd; clear hD hb hge hAd)
        | (go_at_call 41; refine (hT1.out _ _ _ _ hD1.out).mono ?_; rintro e w2 ⟨rfl, hD, hg⟩; have hD2 := Lib.hid hD; have hb2 := Lib.hid (hb1.out.trans (grown_below hg hb1.out.size (fun k hk => by cases hk; exact hge1.out))); clear hD hg)
        | (go_at_call 42; refine (hT2.out _ _ _ _ hD2.out).mono ?_; rintro e w3 ⟨rfl, hD, hg⟩; have hD3 := Lib.hid hD; have hb3 := Lib.hid (hb2.out.trans (grown_below hg hb2.out.size (fun k hk => by cases hk; exact hge1.out))); clear hD hg)
        | (go_at_call 43; refine (hshp.out _).mono ?_; rintro e w9 ⟨rfl, rfl⟩)
        | (go_at_call 44; refine (hlf.out _ _ _ _ hD3.out).mono ?_; rintro e w9 ⟨rfl, mm, rfl⟩))
      obtain ⟨Z, hZ⟩ : ∃ Z, w3.heap.size = Z := ⟨_, rfl⟩
      rw [hZ]
      have hbase : Hid (w.heap.size ≤ gd ∧ gd < Z ∧ ∀ j, blockOf Ad = some j → j < Z) := Lib.hid ⟨hge1.out, hZ ▸ hD3.out.gl, fun j hj => hZ ▸ hD3.out.ab j hj⟩
      have hcZ : Hid (((w3.drewN mm).alloc (.cells #[.slice none 0 0, .int .i64 (H : Int)] 55)).heap[Z]? = some (.cells #[.slice none 0 0, .int .i64 (H : Int)] 55 (0, 0))) := Lib.hid (by rw [← hZ]; exact heap_alloc_new (w3.drewN mm) _)
      have hbZ : Hid (Below w.heap.size w ((w3.drewN mm).alloc (.cells #[.slice none 0 0, .int .i64 (H : Int)] 55))) := Lib.hid ((below_drewN hb3.out mm).alloc hb3.out.size _)
      have hDZ : Hid (DecAt ((w3.drewN mm).alloc (.cells #[.slice none 0 0, .int .i64 (H : Int)] 55)) gd Ad cd l 3 none) := Lib.hid (DecAt.keep hD3.out ((below_drewN (Below.refl _ _) mm).alloc (Nat.le_refl _) _))
      clear hT1 hT2 hshp hlf hop hiff hge1 hAd1 hD1 hD2 hD3 hb1 hb2
      go_loopw [33] (fun iv wr => ∃ (k : Nat) (A1 : Option Addr) (c1 : Nat), k ≤ W ∧ iv = .int .i64 (k : Int) ∧ Hid (DecAt wr gd Ad cd l (3 + 8 * k) none) ∧ Hid (wr.heap[Z]? = some (.cells #[.slice A1 k c1, .int .i64 (H : Int)] 55 (0, 0))) ∧ Hid (Own wr (Z + 1) 77 1 A1 k c1 (u64s ((wordsQ l W).take k))) ∧ Hid (Below w.heap.size w wr)) (fun iv _ => W - (intOf iv).toNat)
      case atStart => exact ⟨0, none, 0, by omega, rfl, hDZ, hcZ, Lib.hid (Own.nil _ _ _ _), hbZ⟩
      case round =>
        clear hcZ hbZ hDZ
        obtain ⟨k, A1, c1, hk, rfl, hD, hc, ho, hb⟩ := hrel
        have c0 : wr.cell? ⟨Z, 0, none⟩ = some (.slice A1 k c1) := cell_of_row _ _ _ _ _ _ hc.out
        by_cases hlt : k < W
        · obtain ⟨x, hx⟩ : ∃ x, Hid (leN ((l.drop (3 + 8 * k)).take 8) = x) := ⟨_, Lib.hid rfl⟩
          have hT3 : Hid (∀ m, Calls Try.prog 45 #[.pointer (some ⟨gd, 0, none⟩)] (wr.drewN m) fun e w' => e = .returned (.int .u64 (x : Int)) ∧ DecAt w' gd Ad cd l (3 + 8 * (k + 1)) none ∧ (wr.drewN m).grownBy w' (some gd)) := Lib.hid fun m => by
            have h8 : 8 ≤ l.length - (3 + 8 * k) := by rw [hlen.out]; omega
            have hf : fixM l 8 (some (3 + 8 * k)) = (x, some (3 + 8 * (k + 1))) := by
              simp only [fixM, rawM, h8, if_true, hx.out]
              congr 2
            have hd : DecS (wr.drewN m) gd Ad cd l (some (3 + 8 * k)) := hD.out.drewN m
            have := takeuint64_any hd
            unfold Takeuint64Post at this
            rw [hf] at this
            exact this
          have hZs := Lib.hid (lt_of_block hc.out)
          go_wp2_with fail
          have hd : Hid True := Lib.hid trivial
          refine wp_region_held (S := fun _ => True) (by kernel_rfl) ?_
          change wpAnyH _ _ _ _ _ _ _ _ (World.drew _)
          refine tk (i := 0) (d := 35) (v := .pointer (some ⟨Z, 0, none⟩)) rfl rfl (Or.inl ⟨by rfl, by intro W hW; clear hW; go_simp⟩) hd.out ?_
          simp only [List.setIfInBounds_toArray, List.set_cons_zero, List.set_cons_succ]
          refine tk (i := 1) (d := 36) (v := .pointer (some ⟨Z, 0, none⟩)) rfl rfl (Or.inl ⟨by rfl, by intro W hW; clear hW; go_simp⟩) hd.out ?_
          simp only [List.setIfInBounds_toArray, List.set_cons_zero, List.set_cons_succ]
          refine tk (i := 2) (d := 37) (v := .pointer (some ⟨Z, 0, none⟩)) rfl rfl (Or.inl ⟨by rfl, by intro W hW; clear hW; go_simp⟩) hd.out ?_
          simp only [List.setIfInBounds_toArray, List.set_cons_zero, List.set_cons_succ]
          refine tk (i := 3) (d := 38) (v := .pointer (some ⟨Z, 0, none⟩)) rfl rfl (Or.inl ⟨by rfl, by intro W hW; clear hW; go_simp⟩) hd.out ?_
          simp only [List.setIfInBounds_toArray, List.set_cons_zero, List.set_cons_succ]
          refine tk (i := 5) (d := 40) (v := .pointer (some ⟨gd, 0, none⟩)) rfl rfl (Or.inl ⟨by rfl, by intro W hW; clear hW; go_simp⟩) hd.out ?_
          simp only [List.setIfInBounds_toArray, List.set_cons_zero, List.set_cons_succ]
          refine wpAnyH_ready (rs := [4, 6]) (by kernel_rfl) (by simp) ?_
          refine AllReadyH.cons rfl (fun K hK => ?_) (AllReadyH.cons rfl (fun K hK => ?_) AllReadyH.nil)
          · go_simp
            refine hK.out _ _ hd.out (fun _ => ?_)
            clear hK K
            refine wpAnyH_ready (rs := [6]) (by kernel_rfl) (by simp) ?_
            refine AllReadyH.cons rfl (fun K hK => ?_) AllReadyH.nil
            go_simp
            refine (hT3.out 1).mono ?_
            rintro e w4 ⟨rfl, hd4, hg4⟩
            have hc4 : Hid (w4.heap[Z]? = some (.cells #[.slice A1 k c1, .int .i64 (H : Int)] 55 (0, 0))) := Lib.hid ((hg4.block Z hZs.out (by intro q; injection q with q; have := hbase.out.2.1; omega)).trans hc.out)
            have ho4 := Lib.hid ((ho.out.drewN 1).kept hg4 (by intro j hj q; injection q with q; have := (ho.out.lt j hj).1; have := hbase.out.2.1; omega))
            have hb4 := Lib.hid ((below_drewN hb.out 1).trans (grown_below hg4 hb.out.size (fun j hj => by cases hj; exact hbase.out.1)))
            have hZ4 : Hid (Z + 1 ≤ w4.heap.size) := Lib.hid (lt_of_block hc4.out)
            have c04 : w4.cell? ⟨Z, 0, none⟩ = some (.slice A1 k c1) := cell_of_row _ _ _ _ _ _ hc4.out
            have hD4 := Lib.hid hd4
            clear hd4 hg4
            refine hK.out _ _ hd.out (fun _ => ?_)
            clear hK K
            refine wpAnyH_ready (rs := [7]) (by kernel_rfl) (by simp) ?_
            refine AllReadyH.cons rfl (fun K hK => ?_) AllReadyH.nil
            go_simp
            obtain ⟨w6, h6⟩ : ∃ w6, w4.alloc (.cells #[.int .u64 (x : Int)] 77) = w6 := ⟨_, rfl⟩
            rw [h6]
            have c06 : w6.cell? ⟨Z, 0, none⟩ = some (.slice A1 k c1) := by rw [← h6]; exact cell_of_row _ _ _ _ _ _ ((Below.heap_alloc w4 _ Z hZ4.out).trans hc4.out)
            refine hK.out _ _ hd.out (fun _ => ?_)
            clear hK K
            refine wpAnyH_ready (rs := [8]) (by kernel_rfl) (by simp) ?_
            refine AllReadyH.cons rfl (fun K hK => ?_) AllReadyH.nil
            rw [if_pos (by rfl)]
            rw [← h6]
            clear h6 c06
            refine wp_app1 el64 _ #[_] rfl _ _ rfl rfl ho4.out rfl (by intro u hu; simp at hu; subst hu; rfl) (by unfold maxLen; omega) (by omega) hZ4.out (k + 1) rfl (u64s ((wordsQ l W).take (k + 1))) (by rw [wordsQ_take l W k hlt, hx.out]; simp [u64s]) ?_
            intro A5 c5 w5 o5 at5 b5
            have hc5 : Hid (w5.heap[Z]? = some (.cells #[.slice A1 k c1, .int .i64 (H : Int)] 55 (0, 0))) := Lib.hid ((b5.block Z (Nat.lt_succ_self Z)).trans hc4.out)
            have c05 : w5.cell? ⟨Z, 0, none⟩ = some (.slice A1 k c1) := cell_of_row _ _ _ _ _ _ hc5.out
            have f05 : w5.frozen? ⟨Z, 0, none⟩ = false := by simp [World.frozen?, hc5.out]
            have ho5 := Lib.hid o5
            have hb5 := Lib.hid b5
            clear c04 o5 at5 b5
            refine hK.out _ _ hd.out (fun _ => ?_)
            clear hK K
            refine tk (i := 9) (d := 44) (v := .pointer (some ⟨Z, 0, none⟩)) rfl rfl (Or.inl ⟨by rfl, by intro W hW; clear hW; go_simp⟩) hd.out ?_
            simp only [List.setIfInBounds_toArray, List.set_cons_zero, List.set_cons_succ]
            refine tk (i := 10) (d := 45) (v := .pointer (some ⟨Z, 0, none⟩)) rfl rfl (Or.inl ⟨by rfl, by intro W hW; clear hW; go_simp⟩) hd.out ?_
            simp only [List.setIfInBounds_toArray, List.set_cons_zero, List.set_cons_succ]
            refine wpAnyH_ready (rs := [11]) (by kernel_rfl) (by simp) ?_
            refine AllReadyH.cons rfl (fun K hK => ?_) AllReadyH.nil
            go_simp
            refine hK.out _ _ hd.out (fun _ => ?_)
            clear hK K
            refine wpAnyH_done (by kernel_rfl) ?_ _
            have hBz : Hid (Below Z w4 (w5.setCell ⟨Z, 0, none⟩ (.slice A5 (k + 1) c5))) := Lib.hid ((hb5.out.mono (Nat.le_succ Z)).trans (grown_below (grown_set w5 Z 0 _) (by have := hb5.out.size; have := hZ4.out; omega) (fun j hj => by cases hj; exact Nat.le_refl _)))
            go_wp2_with fail
            go_roundw
            case rel => exact ⟨k + 1, A5, c5, by omega, by go_num, Lib.hid (hD4.out.low hBz.out hbase.out.2.1 hbase.out.2.2), Lib.hid (by rw [heap_setCell_same w5 Z 0 _ _ _ hc5.out]; simp), Lib.hid (ho5.out.setFar (p := ⟨Z, 0, none⟩) (Nat.lt_succ_self Z) _), Lib.hid (hb4.out.trans (hBz.out.mono (by have := hbase.out; omega)))⟩
            case measure => simp [intOf]; omega
          · go_simp
            refine (hT3.out 1).mono ?_
            rintro e w4 ⟨rfl, hd4, hg4⟩
            have hc4 : Hid (w4.heap[Z]? = some (.cells #[.slice A1 k c1, .int .i64 (H : Int)] 55 (0, 0))) := Lib.hid ((hg4.block Z hZs.out (by intro q; injection q with q; have := hbase.out.2.1; omega)).trans hc.out)
            have ho4 := Lib.hid ((ho.out.drewN 1).kept hg4 (by intro j hj q; injection q with q; have := (ho.out.lt j hj).1; have := hbase.out.2.1; omega))
            have hb4 := Lib.hid ((below_drewN hb.out 1).trans (grown_below hg4 hb.out.size (fun j hj => by cases hj; exact hbase.out.1)))
            have hZ4 : Hid (Z + 1 ≤ w4.heap.size) := Lib.hid (lt_of_block hc4.out)
            have c04 : w4.cell? ⟨Z, 0, none⟩ = some (.slice A1 k c1) := cell_of_row _ _ _ _ _ _ hc4.out
            have hD4 := Lib.hid hd4
            clear hd4 hg4
            refine hK.out _ _ hd.out (fun _ => ?_)
            clear hK K
            refine wpAnyH_ready (rs := [4, 7]) (by kernel_rfl) (by simp) ?_
            refine AllReadyH.cons rfl (fun K hK => ?_) (AllReadyH.cons rfl (fun K hK => ?_) AllReadyH.nil)
            · go_simp
              refine hK.out _ _ hd.out (fun _ => ?_)
              clear hK K
              refine wpAnyH_ready (rs := [7]) (by kernel_rfl) (by simp) ?_
              refine AllReadyH.cons rfl (fun K hK => ?_) AllReadyH.nil
              go_simp
              obtain ⟨w6, h6⟩ : ∃ w6, w4.alloc (.cells #[.int .u64 (x : Int)] 77) = w6 := ⟨_, rfl⟩
              rw [h6]
              have c06 : w6.cell? ⟨Z, 0, none⟩ = some (.slice A1 k c1) := by rw [← h6]; exact cell_of_row _ _ _ _ _ _ ((Below.heap_alloc w4 _ Z hZ4.out).trans hc4.out)
              refine hK.out _ _ hd.out (fun _ => ?_)
              clear hK K
              refine wpAnyH_ready (rs := [8]) (by kernel_rfl) (by simp) ?_
              refine AllReadyH.cons rfl (fun K hK => ?_) AllReadyH.nil
              rw [if_pos (by rfl)]
              rw [← h6]
              clear h6 c06
              refine wp_app1 el64 _ #[_] rfl _ _ rfl rfl ho4.out rfl (by intro u hu; simp at hu; subst hu; rfl) (by unfold maxLen; omega) (by omega) hZ4.out (k + 1) rfl (u64s ((wordsQ l W).take (k + 1))) (by rw [wordsQ_take l W k hlt, hx.out]; simp [u64s]) ?_
              intro A5 c5 w5 o5 at5 b5
              have hc5 : Hid (w5.heap[Z]? = some (.cells #[.slice A1 k c1, .int .i64 (H : Int)] 55 (0, 0))) := Lib.hid ((b5.block Z (Nat.lt_succ_self Z)).trans hc4.out)
              have c05 : w5.cell? ⟨Z, 0, none⟩ = some (.slice A1 k c1) := cell_of_row _ _ _ _ _ _ hc5.out
              have f05 : w5.frozen? ⟨Z, 0, none⟩ = false := by simp [World.frozen?, hc5.out]
              have ho5 := Lib.hid o5
              have hb5 := Lib.hid b5
              clear c04 o5 at5 b5
              refine hK.out _ _ hd.out (fun _ => ?_)
              clear hK K
              refine tk (i := 9) (d := 44) (v := .pointer (some ⟨Z, 0, none⟩)) rfl rfl (Or.inl ⟨by rfl, by intro W hW; clear hW; go_simp⟩) hd.out ?_
              simp only [List.setIfInBounds_toArray, List.set_cons_zero, List.set_cons_succ]
              refine tk (i := 10) (d := 45) (v := .pointer (some ⟨Z, 0, none⟩)) rfl rfl (Or.inl ⟨by rfl, by intro W hW; clear hW; go_simp⟩) hd.out ?_
              simp only [List.setIfInBounds_toArray, List.set_cons_zero, List.set_cons_succ]
              refine wpAnyH_ready (rs := [11]) (by kernel_rfl) (by simp) ?_
              refine AllReadyH.cons rfl (fun K hK => ?_) AllReadyH.nil
              go_simp
              refine hK.out _ _ hd.out (fun _ => ?_)
              clear hK K
              refine wpAnyH_done (by kernel_rfl) ?_ _
              have hBz : Hid (Below Z w4 (w5.setCell ⟨Z, 0, none⟩ (.slice A5 (k + 1) c5))) := Lib.hid ((hb5.out.mono (Nat.le_succ Z)).trans (grown_below (grown_set w5 Z 0 _) (by have := hb5.out.size; have := hZ4.out; omega) (fun j hj => by cases hj; exact Nat.le_refl _)))
              go_wp2_with fail
              go_roundw
              case rel => exact ⟨k + 1, A5, c5, by omega, by go_num, Lib.hid (hD4.out.low hBz.out hbase.out.2.1 hbase.out.2.2), Lib.hid (by rw [heap_setCell_same w5 Z 0 _ _ _ hc5.out]; simp), Lib.hid (ho5.out.setFar (p := ⟨Z, 0, none⟩) (Nat.lt_succ_self Z) _), Lib.hid (hb4.out.trans (hBz.out.mono (by have := hbase.out; omega)))⟩
              case measure => simp [intOf]; omega
            · go_simp
              obtain ⟨w6, h6⟩ : ∃ w6, w4.alloc (.cells #[.int .u64 (x : Int)] 77) = w6 := ⟨_, rfl⟩
              rw [h6]
              have c06 : w6.cell? ⟨Z, 0, none⟩ = some (.slice A1 k c1) := by rw [← h6]; exact cell_of_row _ _ _ _ _ _ ((Below.heap_alloc w4 _ Z hZ4.out).trans hc4.out)
              refine hK.out _ _ hd.out (fun _ => ?_)
              clear hK K
              refine wpAnyH_ready (rs := [4]) (by kernel_rfl) (by simp) ?_
              refine AllReadyH.cons rfl (fun K hK => ?_) AllReadyH.nil
              go_simp
              refine hK.out _ _ hd.out (fun _ => ?_)
              clear hK K
              refine wpAnyH_ready (rs := [8]) (by kernel_rfl) (by simp) ?_
              refine AllReadyH.cons rfl (fun K hK => ?_) AllReadyH.nil
              rw [if_pos (by rfl)]
              rw [← h6]
              clear h6 c06
              refine wp_app1 el64 _ #[_] rfl _ _ rfl rfl ho4.out rfl (by intro u hu; simp at hu; subst hu; rfl) (by unfold maxLen; omega) (by omega) hZ4.out (k + 1) rfl (u64s ((wordsQ l W).take (k + 1))) (by rw [wordsQ_take l W k hlt, hx.out]; simp [u64s]) ?_
              intro A5 c5 w5 o5 at5 b5
              have hc5 : Hid (w5.heap[Z]? = some (.cells #[.slice A1 k c1, .int .i64 (H : Int)] 55 (0, 0))) := Lib.hid ((b5.block Z (Nat.lt_succ_self Z)).trans hc4.out)
              have c05 : w5.cell? ⟨Z, 0, none⟩ = some (.slice A1 k c1) := cell_of_row _ _ _ _ _ _ hc5.out
              have f05 : w5.frozen? ⟨Z, 0, none⟩ = false := by simp [World.frozen?, hc5.out]
              have ho5 := Lib.hid o5
              have hb5 := Lib.hid b5
              clear c04 o5 at5 b5
              refine hK.out _ _ hd.out (fun _ => ?_)
              clear hK K
              refine tk (i := 9) (d := 44) (v := .pointer (some ⟨Z, 0, none⟩)) rfl rfl (Or.inl ⟨by rfl, by intro W hW; clear hW; go_simp⟩) hd.out ?_
              simp only [List.setIfInBounds_toArray, List.set_cons_zero, List.set_cons_succ]
              refine tk (i := 10) (d := 45) (v := .pointer (some ⟨Z, 0, none⟩)) rfl rfl (Or.inl ⟨by rfl, by intro W hW; clear hW; go_simp⟩) hd.out ?_
              simp only [List.setIfInBounds_toArray, List.set_cons_zero, List.set_cons_succ]
              refine wpAnyH_ready (rs := [11]) (by kernel_rfl) (by simp) ?_
              refine AllReadyH.cons rfl (fun K hK => ?_) AllReadyH.nil
              go_simp
              refine hK.out _ _ hd.out (fun _ => ?_)
              clear hK K
              refine wpAnyH_done (by kernel_rfl) ?_ _
              have hBz : Hid (Below Z w4 (w5.setCell ⟨Z, 0, none⟩ (.slice A5 (k + 1) c5))) := Lib.hid ((hb5.out.mono (Nat.le_succ Z)).trans (grown_below (grown_set w5 Z 0 _) (by have := hb5.out.size; have := hZ4.out; omega) (fun j hj => by cases hj; exact Nat.le_refl _)))
              go_wp2_with fail
              go_roundw
              case rel => exact ⟨k + 1, A5, c5, by omega, by go_num, Lib.hid (hD4.out.low hBz.out hbase.out.2.1 hbase.out.2.2), Lib.hid (by rw [heap_setCell_same w5 Z 0 _ _ _ hc5.out]; simp), Lib.hid (ho5.out.setFar (p := ⟨Z, 0, none⟩) (Nat.lt_succ_self Z) _), Lib.hid (hb4.out.trans (hBz.out.mono (by have := hbase.out; omega)))⟩
              case measure => simp [intOf]; omega
        · obtain rfl : k = W := by omega
          have hcl := Lib.hid (clip_any A1 k c1 (ho.out.le).1 (by omega))
          have f0 : wr.frozen? ⟨Z, 0, none⟩ = false := by simp [World.frozen?, hc.out]
          go_wp2_with (go_at_call 46; refine (hcl.out _).mono ?_; rintro e w9 ⟨rfl, rfl⟩)
          go_ret2
          have ho9 : Hid (Own (wr.setCell ⟨Z, 0, none⟩ (.slice A1 k k)) (Z + 1) 77 1 A1 k c1 (u64s (wordsQ l k))) := Lib.hid (by
            have := ho.out.setFar (p := ⟨Z, 0, none⟩) (Nat.lt_succ_self Z) (.slice A1 k k)
            rwa [List.take_of_length_le (by rw [wordsQ_length]; omega)] at this)
          obtain ⟨u1, u2, u3, u4, u5, u6⟩ := hyes.out
          refine ⟨.inl ⟨hyes.out, Z, A1, k, rfl, ?_⟩, hb.out.trans (grown_below (grown_set wr Z 0 _) (by have := hb.out.size; omega) (fun j hj => by cases hj; have := hbase.out; omega))⟩
          rw [hH0'.out, hW0'.out]
          refine ⟨by rw [heap_setCell_same wr Z 0 _ _ _ hc.out, wordsQ_length]; simp, by have := hbase.out; omega, ho9.out.rowU (wordsQ_length l k) (by have := hbase.out; omega), by have := hH0'.out; omega, by have := hH0'.out; omega, by rw [wordsQ_length]; have := hW0'.out; omega, by rw [wordsQ_length]; have := hW0'.out; omega, by rw [wordsQ_length]; omega, wordsQ_lt l k h256'.out⟩
    · have hno : Hid (¬ okF l) := Lib.hid fun q => hle (hiff.out.1 q).2
      have q1 : ((LL : Int) != ((W * 8 : Nat) : Int)) = true := by simp; omega
      clear hle hsh
      go_enter Try.func20, Try.ntmps20
      go_wp2_with (first
        | (go_at_call 40; refine hop.out.mono ?_; rintro e w1 ⟨⟨gd, Ad, cd, rfl, hge, hD, hAd⟩, hb⟩; have hD1 := Lib.hid hD; have hb1 := Lib.hid hb; have hge1 := Lib.hid hge; clear hD hb hge hAd)
        | (go_at_call 41; refine (hT1.out _ _ _ _ hD1.out).mono ?_; rintro e w2 ⟨rfl, hD, hg⟩; have hD2 := Lib.hid hD; have hb2 := Lib.hid (hb1.out.trans (grown_below hg hb1.out.size (fun k hk => by cases hk; exact hge1.out))); clear hD hg)
        | (go_at_call 42; refine (hT2.out _ _ _ _ hD2.out).mono ?_; rintro e w3 ⟨rfl, hD, hg⟩; have hD3 := Lib.hid hD; have hb3 := Lib.hid (hb2.out.trans (grown_below hg hb2.out.size (fun k hk => by cases hk; exact hge1.out))); clear hD hg)
        | (go_at_call 43; refine (hshp.out _).mono ?_; rintro e w9 ⟨rfl, rfl⟩)
        | (go_at_call 44; refine (hlf.out _ _ _ _ hD3.out).mono ?_; rintro e w9 ⟨rfl, mm, rfl⟩))
      go_ret2
      exact ⟨.inr ⟨hno.out, rfl⟩, below_drewN hb3.out _⟩
  · have hshp : Hid (∀ W0, Calls Try.prog 43 #[.int .i64 ((W : Int) * 64), .int .i64 (H : Int)] W0 fun e w' => e = .returned (.bool false) ∧ W0 = w') := Lib.hid fun W0 => by
      have := shaped_any ((W : Int) * 64) (H : Int) W0
      rwa [decide_eq_false hsh] at this
    have hno : Hid (¬ okF l) := Lib.hid fun q => hsh (hiff.out.1 q).1
    clear hsh
    go_enter Try.func20, Try.ntmps20
    go_wp2_with (first
      | (go_at_call 40; refine hop.out.mono ?_; rintro e w1 ⟨⟨gd, Ad, cd, rfl, hge, hD, hAd⟩, hb⟩; have hD1 := Lib.hid hD; have hb1 := Lib.hid hb; have hge1 := Lib.hid hge; clear hD hb hge hAd)
      | (go_at_call 41; refine (hT1.out _ _ _ _ hD1.out).mono ?_; rintro e w2 ⟨rfl, hD, hg⟩; have hD2 := Lib.hid hD; have hb2 := Lib.hid (hb1.out.trans (grown_below hg hb1.out.size (fun k hk => by cases hk; exact hge1.out))); clear hD hg)
      | (go_at_call 42; refine (hT2.out _ _ _ _ hD2.out).mono ?_; rintro e w3 ⟨rfl, hD, hg⟩; have hD3 := Lib.hid hD; have hb3 := Lib.hid (hb2.out.trans (grown_below hg hb2.out.size (fun k hk => by cases hk; exact hge1.out))); clear hD hg)
      | (go_at_call 43; refine (hshp.out _).mono ?_; rintro e w9 ⟨rfl, rfl⟩))
    go_ret2
    exact ⟨.inr ⟨hno.out, rfl⟩, hb3.out⟩
end Go.Proofs.Ytlghgfnkckaebaa

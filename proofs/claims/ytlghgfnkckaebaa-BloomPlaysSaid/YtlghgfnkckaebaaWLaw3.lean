/- The law's made. -/
import Derived.Test.YtlghgfnkckaebaaWLaw2
import Derived.Laws.Rows
import Derived.Laws.Tables
import Derived.Laws.ResultCell
namespace Go.Proofs.Ytlghgfnkckaebaa
open Go.RowKit
set_option linter.unusedSimpArgs false
set_option linter.unusedVariables false

theorem results_row_tmpW {P : Program} {fn : Func} {p u : Tmp} {ty : TypeId} (h : fn.results = #[.cell p ty, .tmp u]) (tmps : Array Value) (w : World) (g : Nat) (t : TypeId) (cs : Array Value) (fr : Nat × Nat) (d : TypeDesc) (v : Value)
    (hp : tmps.getD p undef = .pointer (some ⟨g, 0, none⟩)) (hv : tmps.getD u undef = v) (hg : w.heap[g]? = some (.cells cs t fr))
    (hu : P.underlying ty = some d) (hd : (match d with | .struct _ | .array _ _ => true | _ => false) = true) (hi : (P.info? ty).map (·.size) = some cs.size) :
    (results fn tmps).run P w = .ok (.tuple #[.agg cs, v]) w := by
  have hp' : tmps[p]?.getD undef = .pointer (some ⟨g, 0, none⟩) := by simpa using hp
  have hv' : tmps[u]?.getD undef = v := by simpa using hv
  simp [results, h, hp', hv', asAddr, run_loadVar_row w g t ty cs fr d hg hu hd hi]
theorem setRow_belowW {B : Nat} {a w : World} (h : Below B a w) {g : Nat} (hg : B ≤ g) (cs : Array Value) : Below B a (w.setRow g cs) :=
  h.trans ⟨rfl, rfl, rfl, by simp, fun k hk => setRow_other _ _ _ _ (by omega)⟩
theorem setRow_fr (w : World) (g : Nat) (cs : Array Value) : Fr (fun k => k = g) w (w.setRow g cs) :=
  ⟨rfl, rfl, rfl, by simp, fun k hk hg => setRow_other _ _ _ _ hg⟩
theorem buildP (p q : Option Addr) (w : World) : (Instr.build 57 #[(0, .pointer p), (1, .pointer q)]).run Try.prog w = .ok (.agg #[.pointer p, .pointer q]) w := run_build w _ _ _ (by kernel_rfl)
theorem buildP0 (w : World) : (Instr.build 57 #[]).run Try.prog w = .ok (.agg #[.pointer none, .pointer none]) w := run_build w _ _ _ (by kernel_rfl)
def MadeP (w : World) (e : Ending) (w' : World) : Prop := (∃ d, e = .returned (.tuple #[.agg #[PD.pp d, PD.qq d], .bool true]) ∧ PairAt w' w.heap.size d) ∧ Below w.heap.size w w'
set_option maxRecDepth 20000 in
set_option maxHeartbeats 1000000 in
theorem made_any (bits hashes : Int) (w : World) : Calls Try.prog 34 #[.int .i64 bits, .int .i64 hashes] w (MadeP w) := by
  obtain ⟨w1, hw1⟩ : ∃ w1, w.alloc (.cells #[.pointer none, .pointer none] 57) = w1 := ⟨_, rfl⟩
  have hb1 : Hid (Below w.heap.size w w1) := Lib.hid (by rw [← hw1]; exact (Below.refl _ _).alloc (Nat.le_refl _) _)
  obtain ⟨K, hK⟩ : ∃ K, w.heap.size = K := ⟨_, rfl⟩
  have hN0 : Hid (w1.heap[K]? = some (.cells #[.pointer none, .pointer none] 57 (0, 0))) := Lib.hid (by rw [← hw1, ← hK]; exact heap_alloc_new w _)
  have hi2 : Hid ((Try.prog.info? 57).map (·.size) = some 2) := Lib.hid (by kernel_rfl)
  have hKs : Hid (K < w1.heap.size ∧ K = w.heap.size) := Lib.hid ⟨lt_of_block hN0.out, hK.symm⟩
  have hw1' := Lib.hid hw1
  clear hw1
  by_cases hs : shp bits hashes
  · obtain ⟨n, H, hbn, hhn, h1, h2, h3, h4⟩ := shp_nat hs
    have hf := Lib.hid (fun W => fnew_yes n H h1 h2 h3 h4 W)
    have hr := Lib.hid (fun W => rnew_yes n H h1 h2 h3 h4 W)
    rw [← hbn, ← hhn] at hf hr
    have hbp := buildP
    clear hs hbn hhn h1 h2 h3 h4
    unfold MadeP
    go_enter Try.func34, Try.ntmps34
    go_wp2_with (first
      | (go_at_call 23
         rw [hw1'.out]
         refine (hf.out _).mono ?_
         rintro e w2 ⟨⟨g, A, c, rfl, hff⟩, hb2⟩
         obtain ⟨A0, eA, _⟩ := hff.at
         subst eA
         have f2 := Lib.hid hff
         have hb2' := Lib.hid hb2
         have hN2 := Lib.hid ((hb2.block K hKs.out.1).trans hN0.out)
         clear hff hb2)
      | (go_at_call 47
         refine (hr.out _).mono ?_
         rintro e w3 ⟨⟨g2, b, cb, rfl, hrr⟩, hb3⟩
         have r3 := Lib.hid hrr
         have hb3' := Lib.hid hb3
         have f3 := Lib.hid (f2.out.below hb3)
         have hN3 := Lib.hid ((hb3.block K (lt_of_block hN2.out)).trans hN2.out)
         have hB3 := Lib.hid (hb1.out.trans ((hb2'.out.trans (hb3.mono hb2'.out.size)).mono hb1.out.size))
         have hsz3 := Lib.hid (Nat.le_trans hb1.out.size hb2'.out.size)
         clear hrr hb3)
      | (refine wpList_store_row rfl 57 _ _ rfl K #[.pointer (some ⟨g, 0, none⟩), .pointer (some ⟨g2, 0, none⟩)] rfl rfl 57 _ hN3.out hi2.out rfl (by simp [Value.oneCell']) ?_))
    have hres := setRow_heap _ K _ #[.pointer (some ⟨g, 0, none⟩), .pointer (some ⟨g2, 0, none⟩)] 57 _ hN3.out
    refine bodyPost_ret (results_row_tmpW rfl _ _ K 57 _ (0, 0) _ (.bool true) rfl rfl hres Try.underlying57 rfl hi2.out) rfl ?_
    obtain ⟨b0, rfl⟩ := (RFlt.own r3.out).head (by have := RFlt.n1 r3.out; omega)
    have fr := setRow_fr w3 K #[.pointer (some ⟨g, 0, none⟩), .pointer (some ⟨g2, 0, none⟩)]
    have tk := typ_cells hN3.out
    rw [← bitsOf_zero] at r3
    have hpd : PairAt w3 w.heap.size (some ⟨g, A0, c, g2, b0, cb, List.replicate n 0, H⟩) := ⟨f3.out.base hb1.out.size, RF.base r3.out hsz3.out⟩
    refine ⟨⟨some ⟨g, A0, c, g2, b0, cb, List.replicate n 0, H⟩, rfl, hpd.keep (e := none) trivial trivial fr (fun k q => .inr ?_)⟩, setRow_belowW hB3.out (by have := hKs.out; omega) _⟩
    have q : k = K := q
    rw [q]
    exact tk
  · have hf := Lib.hid (fun W => fnew_no hs W)
    have hr := Lib.hid (fun W => rnew_no hs W)
    have hbp := buildP0
    clear hs
    unfold MadeP
    go_enter Try.func34, Try.ntmps34
    go_wp2_with (first
      | (go_at_call 23
         rw [hw1'.out]
         refine (hf.out _).mono ?_
         rintro e w2 ⟨rfl, rfl⟩)
      | (go_at_call 47
         refine (hr.out _).mono ?_
         rintro e w3 ⟨rfl, rfl⟩)
      | (refine wpList_built rfl 57 _ #[] rfl (by simp) _ buildP0 ?_)
      | (refine wpList_store_row rfl 57 _ _ rfl K #[.pointer none, .pointer none] rfl rfl 57 _ hN0.out hi2.out rfl (by simp [Value.oneCell']) ?_))
    have hres := setRow_heap _ K _ #[.pointer none, .pointer none] 57 _ hN0.out
    refine bodyPost_ret (results_row_tmpW rfl _ _ K 57 _ (0, 0) _ (.bool true) rfl rfl hres Try.underlying57 rfl hi2.out) rfl ?_
    exact ⟨⟨none, rfl, trivial⟩, setRow_belowW hb1.out (by have := hKs.out; omega) _⟩
end Go.Proofs.Ytlghgfnkckaebaa

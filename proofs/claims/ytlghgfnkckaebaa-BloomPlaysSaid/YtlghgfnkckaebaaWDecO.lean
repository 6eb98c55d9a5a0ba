/- A decoder's methods: Open, End. -/
import Derived.Test.YtlghgfnkckaebaaWTake
namespace Go.Proofs.Ytlghgfnkckaebaa
open Go.RowKit
set_option linter.unusedSimpArgs false
set_option linter.unusedVariables false

/-- bytes.Clone of a slice that is not nil. -/
theorem cloneB_any {w : World} {B : Nat} {a : Addr} {l : List Nat} (hb : Byt w B (some a) l) (n c : Nat) (hn : l.length = n) (hs : n ≤ 140737488355328) :
    Calls Try.prog 68 #[.slice (some a) n c] w fun e w' => (∃ A' c', e = .returned (.slice A' n c') ∧ Own w' w.heap.size 5 1 A' n c' (u8s l)) ∧ Below w.heap.size w w' := by
  subst hn
  refine (bytes_Clone_at a l.length c (l.map fun x : Nat => (x : Int)) w (by simp) hs ?_).mono ?_
  · intro i hi
    obtain ⟨b, off, e, _, hc⟩ := hb (by omega)
    injection e with e
    subst e
    rw [Addr.add_lit, hc i hi]
    simp [List.getD, List.getElem?_eq_getElem hi]
  · rintro e w' ⟨v', rfl, hown, _, hbel⟩
    obtain ⟨A', c', rfl⟩ := own_form hown
    have e1 : (l.map fun x : Nat => (x : Int)).map (Value.int .u8) = u8s l := by simp [u8s]
    rw [e1] at hown
    exact ⟨⟨A', c', rfl, hown⟩, hbel⟩
theorem buildD (A : Option Addr) (n c : Nat) (w : World) : (Instr.build 107 #[(0, .slice A n c)]).run Try.prog w = .ok (.agg #[.slice A n c, .int .i64 0, .pointer none]) w := run_build w _ _ _ (by kernel_rfl)
def OpenPost (w : World) (l : List Nat) (e : Ending) (w' : World) : Prop := (∃ g A c, e = .returned (.pointer (some ⟨g, 0, none⟩)) ∧ w.heap.size ≤ g ∧ DecS w' g A c l (some 0) ∧ (∀ j, blockOf A = some j → w.heap.size ≤ j)) ∧ Below w.heap.size w w'
theorem open_any (w : World) (a : Addr) (l : List Nat) (n c : Nat) (hn : l.length = n) (hb : Byt w w.heap.size (some a) l) (hs : n ≤ 140737488355328) (h256 : ∀ x ∈ l, x < 256) :
    Calls Try.prog 40 #[.slice (some a) n c] w (OpenPost w l) := by
  have hbd := buildD
  have hcl := Lib.hid (cloneB_any hb n c hn hs)
  have hn' := Lib.hid hn
  have h256' := Lib.hid h256
  have hs' := Lib.hid hs
  clear hb hn h256 hs
  go_enter Try.func40, Try.ntmps40
  go_wp2_with fail
  refine hcl.out.mono ?_
  rintro e w2 ⟨⟨A2, c2, rfl, o2⟩, b2⟩
  have o2' := Lib.hid o2
  have b2' := Lib.hid b2
  clear o2 b2 hcl
  go_wp2_with fail
  go_ret
  have hba : Below w2.heap.size w2 (w2.alloc (.cells #[.slice A2 n c2, .int .i64 0, .pointer none] 107)) := (Below.refl _ _).alloc (Nat.le_refl _) _
  have hlt := o2'.out.lt
  have hgs := b2'.out.size
  refine ⟨⟨w2.heap.size, A2, c2, rfl, hgs, ⟨?_, ?_, ?_, Nat.zero_le _, ?_, h256'.out, ?_⟩, fun j hj => (hlt j hj).1⟩, b2'.out.trans (hba.mono hgs)⟩
  · rw [hn'.out]
    exact heap_alloc_new w2 _
  · exact (o2'.out.byt.below hba).mono hba.size
  · exact fun e => by have := (hlt _ e).2; omega
  · rw [hn'.out]
    exact ⟨o2'.out.le.1, hs'.out⟩
  · intro j hj
    have := (hlt j hj).2
    simp
    omega
end Go.Proofs.Ytlghgfnkckaebaa

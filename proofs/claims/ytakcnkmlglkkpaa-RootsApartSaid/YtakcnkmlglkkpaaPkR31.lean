/- The document's Turns, whatever is asked. -/
import Derived.Test.YtakcnkmlglkkpaaPkR30

namespace Go.Proofs.Ytakcnkmlglkkpaa
open Go.RowKit
set_option linter.unusedSimpArgs false
set_option linter.unusedVariables false
open Classical

set_option maxRecDepth 100000 in
set_option maxHeartbeats 4000000 in
theorem dturns_bad1 (w : World) {B g c : Nat} {A : Option Addr} {L : Lists} {ps : List Value} (h : Doc w B g A c L ps) (u v : Nat) (hu : L.length ≤ u) :
    Calls Try.prog 43 #[.pointer (some ⟨g, 0, none⟩), .int .u64 (u : Int), .int .u64 (v : Int)] w (TurnsP w L u v) := by
  have hAt1 := Lib.hid (dat_any w h u)
  have hnone : L[u]? = none := List.getElem?_eq_none hu
  clear h
  go_enter Try.func43, Try.ntmps43
  go_wp2_with fail
  refine hAt1.out.mono ?_
  rintro e w1 ⟨(⟨a', A1, c1, e1, rfl, o1⟩ | ⟨_, rfl⟩), b1⟩
  · rw [hnone] at e1
    cases e1
  · have b1' := Lib.hid b1
    clear b1 hAt1
    go_wp2_with fail
    go_ret2
    exact ⟨.inr ⟨.inl hu, rfl⟩, b1'.out⟩
set_option maxRecDepth 100000 in
set_option maxHeartbeats 4000000 in
theorem dturns_bad2 (w : World) {B g c : Nat} {A : Option Addr} {L : Lists} {ps : List Value} (h : Doc w B g A c L ps) (u v : Nat) (hu : u < L.length) (hv : L.length ≤ v) :
    Calls Try.prog 43 #[.pointer (some ⟨g, 0, none⟩), .int .u64 (u : Int), .int .u64 (v : Int)] w (TurnsP w L u v) := by
  have hAt1 := Lib.hid (dat_any w h u)
  have hAt2 : Hid (∀ W, Below w.heap.size w W → Calls Try.prog 42 #[.pointer (some ⟨g, 0, none⟩), .int .u64 (v : Int)] W (AtP W L v)) := Lib.hid fun W hW => dat_any W (h.below hW) v
  have hnone : L[v]? = none := List.getElem?_eq_none hv
  clear h
  go_enter Try.func43, Try.ntmps43
  go_wp2_with fail
  refine hAt1.out.mono ?_
  rintro e w1 ⟨(⟨a', A1, c1, e1, rfl, o1⟩ | ⟨hbad, _⟩), b1⟩
  · have hc2 := Lib.hid (hAt2.out w1 b1)
    have b1' := Lib.hid b1
    clear hAt1 hAt2 b1 o1 e1
    go_wp2_with fail
    refine hc2.out.mono ?_
    rintro e w2 ⟨(⟨b', A2, c2, e2, rfl, o2⟩ | ⟨_, rfl⟩), b2⟩
    · rw [hnone] at e2
      cases e2
    · have b2' := Lib.hid (b1'.out.trans (b2.mono b1'.out.size))
      clear b2 hc2
      go_wp2_with fail
      go_ret2
      exact ⟨.inr ⟨.inr hv, rfl⟩, b2'.out⟩
  · exact absurd hbad (by omega)
theorem dturns_any (w : World) {B g c : Nat} {A : Option Addr} {L : Lists} {ps : List Value} (h : Doc w B g A c L ps) (u v : Nat) :
    Calls Try.prog 43 #[.pointer (some ⟨g, 0, none⟩), .int .u64 (u : Int), .int .u64 (v : Int)] w (TurnsP w L u v) := by
  rcases Nat.lt_or_ge u L.length with hu | hu
  · rcases Nat.lt_or_ge v L.length with hv | hv
    · exact dturns_ok w h u v (List.getElem?_eq_getElem hu) (List.getElem?_eq_getElem hv)
    · exact dturns_bad2 w h u v hu hv
  · exact dturns_bad1 w h u v hu
end Go.Proofs.Ytakcnkmlglkkpaa

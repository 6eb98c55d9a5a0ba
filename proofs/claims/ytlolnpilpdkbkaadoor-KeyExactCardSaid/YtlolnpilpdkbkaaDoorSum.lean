/- sha.Sum. -/
import Derived.Test.YtlolnpilpdkbkaaDoorDigest
namespace Go.Proofs.YtlolnpilpdkbkaaDoor
open Go.RowKit

set_option maxRecDepth 100000 in
set_option maxHeartbeats 1000000 in
theorem shaSum_any (w : World) (ks b : List Nat) (A : Option Addr) (c : Nat) (hT : Tab w ks) (hk : ks.length = 64) (hkl : ∀ x ∈ ks, x < 4294967296) (hb : ∀ x ∈ b, x < 256) (hA : Byt w w.heap.size A b) (hc : b.length ≤ c) (hcm : c ≤ 9223372036854775807) :
    Calls Tryd.prog 20 #[.slice A b.length c] w fun e w' => e = .returned (.agg (u8s (digest ks b)).toArray) ∧ Below w.heap.size w w' := by
  have hz := zeroK
  have hzh := zeroH
  have hi32 : (Tryd.prog.info? 24).map (·.size) = some 32 := by kernel_rfl
  have hi32' := Lib.hid hi32
  have hB2 : Below w.heap.size w ((w.alloc (.cells (u8s (zerW 32)).toArray 24)).alloc (.cells (hcells (zerW 8) (zerW 64) 0 false).toArray 65)) := ((Below.refl _ _).alloc (Nat.le_refl _) _).alloc (by simp) _
  have hH2 : HR ((w.alloc (.cells (u8s (zerW 32)).toArray 24)).alloc (.cells (hcells (zerW 8) (zerW 64) 0 false).toArray 65)) (w.heap.size + 1) 0 (zerW 8) (zerW 64) 0 false := HR.of_row (heap_alloc2_new w _ _) (by simp [zerW]) (by simp [zerW])
  have k0 : Blk8 ((w.alloc (.cells (u8s (zerW 32)).toArray 24)).alloc (.cells (hcells (zerW 8) (zerW 64) 0 false).toArray 65)) w.heap.size (zerW 32) := heap_alloc2_old w _ _
  have hT2 := hT.below hB2
  have hTl := hT.lt
  have hA2 := (hA.below hB2).mono hB2.size
  have hO : Off A b.length (w.heap.size + 1) := fun hn a ha => by
    obtain ⟨b0, off, e, hb0, _⟩ := hA hn
    rw [e] at ha
    cases ha
    show b0 ≠ _
    omega
  have hwr := write_any ((w.alloc (.cells (u8s (zerW 32)).toArray 24)).alloc (.cells (hcells (zerW 8) (zerW 64) 0 false).toArray 65)) ks [] b A c (has_zero hH2) hT2 (by omega) hk hkl (by simp) hb hA2 hO hc hcm (by simp; omega)
  rw [List.nil_append] at hwr
  have hwr' := Lib.hid hwr
  have hB2' := Lib.hid hB2
  have k0' := Lib.hid k0
  have hT2' := Lib.hid hT2
  have hk' := Lib.hid hk
  have hkl' := Lib.hid hkl
  have hb' := Lib.hid hb
  have hs2 : ((w.alloc (.cells (u8s (zerW 32)).toArray 24)).alloc (.cells (hcells (zerW 8) (zerW 64) 0 false).toArray 65)).heap.size = w.heap.size + 2 := by simp
  have hs2' := Lib.hid hs2
  clear hi32 hB2 hH2 k0 hT2 hA2 hO hwr hT hk hkl hb hA hs2
  go_enter Tryd.func20, Tryd.ntmps20
  go_wp2_with (go_at_call 29; refine hwr'.out.mono ?_; rintro e w3 ⟨⟨v, rfl⟩, hH3, hc3⟩)
  have hT3 := hT2'.out.chg hc3 (by omega)
  have hk3 : Blk8 w3 w.heap.size (zerW 32) := (hc3.block w.heap.size k0'.out.lt (by omega)).trans k0'.out
  have hB3 := hB2'.out.trans (hc3.below hB2'.out.size (by omega))
  have hsum := sum_any w3 ks b hH3 hT3 hk'.out hkl'.out hb'.out (by omega)
  refine hsum.mono ?_
  rintro e w4 ⟨rfl, hb4⟩
  have hk4' : Hid (Blk8 w4 w.heap.size (zerW 32)) := Lib.hid (hk3.below hb4)
  have hB4' := Lib.hid (hB3.trans (hb4.mono hB3.size))
  obtain ⟨D, hD⟩ : ∃ D, Hid (∀ _ : Unit, digest ks b = D) := ⟨_, Lib.hid fun _ => rfl⟩
  have hDn : D.length = 32 := by rw [← hD.out ()]; exact digest_length _ _
  have hs32 : (u8s D).toArray.size = 32 := by simp [u8s, hDn]
  have hz32 : (u8s (zerW 32)).toArray.size = 32 := by simp [u8s, zerW]
  have hone : (u8s D).toArray.all (·.oneCell') = true := all_oneCell_toArray u8s_one
  rw [hD.out ()]
  clear hT3 hk3 hB3 hsum hb4 hH3 hc3 hDn
  go_wp2_with (first
    | (refine wpList_store_row rfl 24 _ _ rfl w.heap.size (u8s D).toArray rfl rfl 24 _ hk4'.out (by rw [hs32]; exact hi32'.out) (by rw [hs32, hz32]) hone ?_))
  have hset := setRow_heap w4 w.heap.size _ (u8s D).toArray 24 _ hk4'.out
  exact bodyPost_ret (results_cell_row rfl _ _ w.heap.size 24 (u8s D).toArray (0, 0) _ rfl hset Tryd.underlying24 rfl (by rw [hs32]; exact hi32'.out)) rfl ⟨by rw [hD.out ()], setRow_belS hB4'.out (Nat.le_refl _) _⟩
end Go.Proofs.YtlolnpilpdkbkaaDoor

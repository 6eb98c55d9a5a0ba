/- A script as an argument, opened. -/
import Derived.Test.YtakcnkmlglkkpaaPkR39
import Derived.Test.YtakcnkmlglkkpaaPkR40
import Derived.SizedLaws
import Derived.ProofKit
import Derived.OpenShut

namespace Go.Proofs.Ytakcnkmlglkkpaa
open Go.RowKit Go.ChangeShapes Go.WideShapes
set_option linter.unusedSimpArgs false

theorem cut_at {α : Type} (L : List α) (i n : Nat) : L.drop i = (L.drop i).take n ++ L.drop (i + n) := by
  have := List.take_append_drop n (L.drop i)
  rw [List.drop_drop] at this
  exact this.symm
theorem all_u8 : ∀ cs : List Value, (∀ i, i < cs.length → ∃ b : Nat, cs[i]? = some (.int .u8 (b : Int))) → ∃ l : List Nat, cs = u8s l
  | [], _ => ⟨[], rfl⟩
  | c :: cs, h => by
    obtain ⟨b, hb⟩ := h 0 (by simp)
    obtain ⟨l, rfl⟩ := all_u8 cs fun i hi => by simpa using h (i + 1) (by simpa using hi)
    simp only [List.getElem?_cons_zero, Option.some.injEq] at hb
    exact ⟨b :: l, by rw [hb]; rfl⟩
section
variable {H : Type} {enc : TypeId × Value → H} {P : Program} {W : World} {base : Nat} {spare : Nat → Bool} {held : Bool}
theorem cells_u8s {t e : TypeId} {n fuel : Nat} {cs : List Value} {x : DataW H × List MemPlace} (ht : P.underlying t = some (.array n e)) (he : P.underlying e = some (.int .u8)) (hc : P.cellsOf e = 1) (hl : P.cellsOf t = n)
    (h : DataW.trod enc P W base spare held fuel t cs = some x) : ∃ l : List Nat, cs = u8s l ∧ l.length = n := by
  obtain ⟨xs, m, _, _, hcl, hxl, hg⟩ := DataW.trod_array ht h
  rw [hl] at hcl
  have h1 : ∀ i, i < n → ∃ b : Nat, cs[i]? = some (.int .u8 (b : Int)) := fun i hi => by
    have hg1 := hg i hi
    rw [hc, Nat.mul_one, List.getElem?_eq_getElem (by omega), List.drop_eq_getElem_cons (by omega)] at hg1
    simp only [List.take_succ_cons, List.take_zero] at hg1
    obtain ⟨b, hb, hlt⟩ := cell_u8 he hg1
    exact ⟨b, by rw [List.getElem?_eq_getElem (by omega), hb]⟩
  obtain ⟨l, rfl⟩ := all_u8 cs fun i hi => h1 i (by omega)
  rw [u8s_length] at hcl
  exact ⟨l, rfl, hcl⟩
theorem cells_u64 {t : TypeId} {fuel : Nat} {c0 : List Value} {y : DataW H × List MemPlace} (ht : P.underlying t = some (.int .u64)) (h : DataW.trod enc P W base spare held fuel t c0 = some y) : ∃ b : Nat, c0 = [.int .u64 (b : Int)] ∧ b < 18446744073709551616 := by
  obtain ⟨b, hb, _, hw⟩ := DataW.trod_int ht h
  have hw2 : 0 ≤ b ∧ b < 18446744073709551616 := by
    simp [Lit.wf, IntKind.min, IntKind.max, IntKind.signed, IntKind.bits] at hw
    omega
  exact ⟨b.toNat, by rw [hb, Int.toNat_of_nonneg hw2.1], by omega⟩
/-- A slice of elements of several cells, as a row; the elements' data. -/
theorem slice_rowD {α : Type} (f : α → List Value) {k : Nat} (hk : ∀ x, (f x).length = k) {ok : α → DataW H → Prop} {t e : TypeId} {fuel : Nat} {cs : List Value} {y : DataW H × List MemPlace} (ht : P.underlying t = some (.slice e)) (hc : P.cellsOf e = k) (hs : 0 < k)
    (hf : ∀ n c y, DataW.trod enc P W base spare held n e c = some y → c.length = k → ∃ z, c = f z ∧ ok z y.1) (z0 : α)
    (h : DataW.trod enc P W base spare held fuel t cs = some y) :
    ∃ (A : Option Addr) (cap : Nat) (zs : List α) (Ds : List (DataW H)), cs = [.slice A zs.length cap] ∧ Row f k W W.heap.size A zs ∧ Ds.length = zs.length ∧ Elems y.1 Ds ∧ ∀ i, i < zs.length → ok (zs[i]?.getD z0) (Ds[i]?.getD .nil) := by
  obtain ⟨A, cap, zs, Ds, h1, _, _, h2, h3, h4, h5⟩ := cell_slice_d (ok := ok) f ht hc hs hf z0 h
  refine ⟨A, cap, zs, Ds, h1, ?_, h3, h4, h5⟩
  refine Rd.congr h2 fun j hj => ?_
  have hq : j / k < zs.length := Nat.div_lt_of_lt_mul (by rwa [Nat.mul_comm] at hj)
  have := flat_get hk zs (j / k) (j % k) hq (Nat.mod_lt _ hs)
  rw [Nat.mul_comm, Nat.div_add_mod] at this
  rw [this, List.getElem?_eq_getElem hq, Option.getD_some]
end
theorem weightsAll_mem_ {H : Type} {P : Program} {e : TypeId} {d : DataW H} : ∀ {ds : List (DataW H)}, d ∈ ds → ∀ n ∈ d.weights P e, n ∈ DataW.weightsAll P e ds
  | x :: ds, h, n, hn => by
    simp only [DataW.weightsAll, List.mem_append]
    rcases List.mem_cons.1 h with rfl | h
    · exact Or.inl hn
    · exact Or.inr (weightsAll_mem_ h n hn)
/-- A struct within a list: its parts keep within the reach. -/
theorem reach_elem {H : Type} {P : Program} {ts : List TypeId} {ds Ds parts : List (DataW H)} {d : DataW H} {j : Nat} {t e : TypeId} {fs : Array Field} (h : (DataW.weightsEach P ts ds).all (· ≤ reachBytes) = true) (ht : ts[j]? = some t) (hd : ds[j]? = some d)
    (hE : Elems d Ds) (hu : P.underlying t = some (.slice e)) (hu2 : P.underlying e = some (.struct fs)) (hx : DataW.agg parts ∈ Ds) : (DataW.weightsEach P (fs.toList.map (·.type)) parts).all (· ≤ reachBytes) = true := by
  rcases hE with ⟨rfl, rfl⟩ | ⟨sp2, rfl⟩
  · cases hx
  · rw [List.all_eq_true]
    intro n hn
    refine (List.all_eq_true.1 h) n (DataW.weights_mem_each ht hd n ?_)
    simp only [DataW.weights, hu, List.mem_cons, List.mem_append]
    refine Or.inr (Or.inl (weightsAll_mem_ hx n ?_))
    unfold DataW.weights
    rw [hu2]
    exact hn
/-- Each name is bounded: so is their sum. -/
theorem totS_le {l : List RootT} {B : Nat} (h : ∀ x ∈ l, x.1.size ≤ B) : totS l ≤ l.length * (B + 33) := by
  induction l with
  | nil => simp [totS]
  | cons x l ih =>
    have h1 := ih fun r hr => h r (by simp [hr])
    have h2 := h x (by simp)
    simp only [totS, List.map_cons, List.sum_cons, List.length_cons, Nat.add_mul, Nat.one_mul] at h1 ⊢
    omega
section
variable {H : Type} {enc : TypeId × Value → H} {W : World} {base : Nat} {spare : Nat → Bool} {held : Bool}
theorem kku : Try.prog.cellsOf 5 = 1 := by kernel_rfl
theorem kkk : Try.prog.cellsOf 35 = 32 := by kernel_rfl
theorem kks : Try.prog.cellsOf 9 = 1 := by kernel_rfl
theorem kkz : Try.prog.cellsOf 36 = 1 := by kernel_rfl
theorem kki : Try.prog.cellsOf 3 = 1 := by kernel_rfl
theorem kkb : Try.prog.cellsOf 4 = 1 := by kernel_rfl
theorem key_open {n : Nat} {c : List Value} {y : DataW H × List MemPlace} (h : DataW.trod enc Try.prog W base spare held n 35 c = some y) : ∃ z : RKey, c = encKy z := by
  obtain ⟨l, rfl, hl⟩ := cells_u8s Try.underlying35 Try.underlying5 kku kkk h
  exact ⟨⟨l, hl⟩, rfl⟩
theorem root_open {n : Nat} {c : List Value} {y : DataW H × List MemPlace} (h : DataW.trod enc Try.prog W base spare held n 61 c = some y) (hc : c.length = 33) : ∃ z : RootT, c = encR z ∧ ∃ bs x1, y.1 = .agg [.lit (.string bs), x1] ∧ bs.length = z.1.size := by
  obtain ⟨xs, m, _, hx, _, hxl, hg⟩ := DataW.trod_struct Try.underlying61 h
  match xs, hxl with
  | [x0, x1], _ =>
    have g0 : DataW.trod enc Try.prog W base spare held m 9 ((c.drop 0).take (Try.prog.cellsOf 9)) = some x0 := hg 0 _ rfl
    have g1 : DataW.trod enc Try.prog W base spare held m 35 ((c.drop 1).take (Try.prog.cellsOf 35)) = some x1 := hg 1 _ rfl
    rw [kks] at g0
    rw [kkk] at g1
    obtain ⟨s, e0, hd0, hs⟩ := DataW.trod_string Try.underlying9 g0
    obtain ⟨k, e1⟩ := key_open g1
    refine ⟨(s, k), ?_, ?_⟩
    · have s0 := cut_at c 0 1
      have s1 := cut_at c 1 32
      rw [List.drop_eq_nil_of_le (show c.length ≤ 1 + 32 by omega), List.append_nil] at s1
      rw [List.drop_zero] at s0
      rw [List.drop_zero] at e0
      rw [s0, s1, e0, e1]
      rfl
    · refine ⟨s.data.toList, x1.1, by rw [hx, hd0]; rfl, Array.length_toList⟩
theorem step_open {n : Nat} {c : List Value} {y : DataW H × List MemPlace} (h : DataW.trod enc Try.prog W base spare held n 41 c = some y) (hc : c.length = 37) : ∃ z : StepT, c = encS z ∧ True := by
  obtain ⟨xs, m, _, hx, _, hxl, hg⟩ := DataW.trod_struct Try.underlying41 h
  match xs, hxl with
  | [x0, x1, x2, x3, x4, x5], _ =>
    have g0 : DataW.trod enc Try.prog W base spare held m 3 ((c.drop 0).take (Try.prog.cellsOf 3)) = some x0 := hg 0 _ rfl
    have g1 : DataW.trod enc Try.prog W base spare held m 9 ((c.drop 1).take (Try.prog.cellsOf 9)) = some x1 := hg 1 _ rfl
    have g2 : DataW.trod enc Try.prog W base spare held m 35 ((c.drop 2).take (Try.prog.cellsOf 35)) = some x2 := hg 2 _ rfl
    have g3 : DataW.trod enc Try.prog W base spare held m 4 ((c.drop 34).take (Try.prog.cellsOf 4)) = some x3 := hg 3 _ rfl
    have g4 : DataW.trod enc Try.prog W base spare held m 36 ((c.drop 35).take (Try.prog.cellsOf 36)) = some x4 := hg 4 _ rfl
    have g5 : DataW.trod enc Try.prog W base spare held m 36 ((c.drop 36).take (Try.prog.cellsOf 36)) = some x5 := hg 5 _ rfl
    rw [kki] at g0
    rw [kks] at g1
    rw [kkk] at g2
    rw [kkb] at g3
    rw [kkz] at g4 g5
    obtain ⟨i, e0, _, _⟩ := DataW.trod_int Try.underlying3 g0
    obtain ⟨s, e1, _, hs⟩ := DataW.trod_string Try.underlying9 g1
    obtain ⟨k, e2⟩ := key_open g2
    obtain ⟨a, e3, _⟩ := DataW.trod_bool Try.underlying4 g3
    obtain ⟨u, e4, _⟩ := cells_u64 Try.underlying36 g4
    obtain ⟨v, e5, _⟩ := cells_u64 Try.underlying36 g5
    refine ⟨⟨i, s, k, a, u, v⟩, ?_, trivial⟩
    have s0 := cut_at c 0 1
    have s1 := cut_at c 1 1
    have s2 := cut_at c 2 32
    have s3 := cut_at c 34 1
    have s4 := cut_at c 35 1
    have s5 := cut_at c 36 1
    rw [List.drop_eq_nil_of_le (show c.length ≤ 36 + 1 by omega), List.append_nil] at s5
    rw [List.drop_zero] at s0
    rw [List.drop_zero] at e0
    rw [s0, s1, s2, s3, s4, s5, e0, e1, e2, e3, e4, e5]
    rfl
end
section
variable {H : Type} {enc : TypeId × Value → H}
set_option maxRecDepth 100000 in
theorem script_open (W : World) (base : Nat) (v0 : Value) (d0 : DataW H) (p0 : List MemPlace)
    (o0 : Value.okWide Try.prog W .any base 27 v0) (h0 : DataW.Trod enc Try.prog W 0 (fun _ => true) true 27 v0 d0 p0)
    {ts : List TypeId} {ds : List (DataW H)} {jj : Nat} (hsz : (DataW.weightsEach Try.prog ts ds).all (· ≤ reachBytes) = true) (hj : ts[jj]? = some 27) (hd : ds[jj]? = some d0) :
    ∃ (b : Bool) (l : List RootT) (ss : List StepT) (A1 A2 : Option Addr) (c1 c2 : Nat), v0 = .agg (encX b A1 l.length c1 A2 ss.length c2) ∧ RowR W W.heap.size A1 l ∧ RowS W W.heap.size A2 ss ∧ (l.length ≤ 4096 → totS l ≤ 4611686018427387904) := by
  obtain ⟨cs, rfl, hcs⟩ := okWide_struct Try.underlying27 o0
  obtain ⟨fuel, hf0⟩ := h0
  obtain ⟨xs, m, _, hx, _, hxl, hg⟩ := DataW.trod_struct Try.underlying27 hf0
  have h3 : cs.toList.length = 3 := by rw [Array.length_toList, hcs]; kernel_rfl
  have k1 : Try.prog.cellsOf 24 = 1 := by kernel_rfl
  have k2 : Try.prog.cellsOf 25 = 1 := by kernel_rfl
  match xs, hxl with
  | [x0, x1, x2], _ =>
    have g0 : DataW.trod enc Try.prog W 0 (fun _ => true) true m 4 ((cs.toList.drop 0).take (Try.prog.cellsOf 4)) = some x0 := hg 0 _ rfl
    have g1 : DataW.trod enc Try.prog W 0 (fun _ => true) true m 24 ((cs.toList.drop 1).take (Try.prog.cellsOf 24)) = some x1 := hg 1 _ rfl
    have g2 : DataW.trod enc Try.prog W 0 (fun _ => true) true m 25 ((cs.toList.drop 2).take (Try.prog.cellsOf 25)) = some x2 := hg 2 _ rfl
    rw [kkb] at g0
    rw [k1] at g1
    rw [k2] at g2
    obtain ⟨b, e0, _⟩ := DataW.trod_bool Try.underlying4 g0
    obtain ⟨A1, c1, l, Ds, e1, r1, hD, hE, ho⟩ := slice_rowD encR encR_length (ok := fun z d => ∃ bs x1, d = .agg [.lit (.string bs), x1] ∧ bs.length = z.1.size) Try.underlying24 (by kernel_rfl) (by decide) (fun n c y hy hc => root_open hy hc) rZ g1
    obtain ⟨A2, c2, ss, Ds2, e2, r2, _, _, _⟩ := slice_rowD encS encS_length (ok := fun _ _ => True) Try.underlying25 (by kernel_rfl) (by decide) (fun n c y hy hc => step_open hy hc) ⟨0, ⟨#[]⟩, kZ, false, 0, 0⟩ g2
    refine ⟨b, l, ss, A1, A2, c1, c2, ?_, r1, r2, ?_⟩
    · congr 1
      apply Array.toList_inj.1
      have s0 := cut_at cs.toList 0 1
      have s1 := cut_at cs.toList 1 1
      have s2 := cut_at cs.toList 2 1
      rw [List.drop_eq_nil_of_le (show cs.toList.length ≤ 2 + 1 by omega), List.append_nil] at s2
      rw [List.drop_zero] at s0
      rw [List.drop_zero] at e0
      rw [s0, s1, s2, e0, e1, e2]
      rfl
    · simp only [Prod.mk.injEq] at hx
      obtain ⟨rfl, _⟩ := hx
      have hp := reach_struct (j := jj) hsz hj hd Try.underlying27
      have hall : ∀ x ∈ l, x.1.size ≤ 140737488355328 := fun x hxm => by
        obtain ⟨i, hi, rfl⟩ := List.mem_iff_getElem.1 hxm
        obtain ⟨bs, y1, hd1, hbs⟩ := ho i hi
        rw [List.getElem?_eq_getElem hi, Option.getD_some] at hbs
        rw [List.getElem?_eq_getElem (by omega), Option.getD_some] at hd1
        have hq := reach_elem (j := 1) hp rfl rfl hE Try.underlying24 Try.underlying61 (parts := [.lit (.string bs), y1]) (by rw [← hd1]; exact List.getElem_mem _)
        have hr := sized_string (j := 0) hq rfl rfl
        rw [← hbs]
        exact Nat.le_trans hr (by decide)
      intro hn
      have := totS_le hall
      have h2 : l.length * (140737488355328 + 33) ≤ 4096 * (140737488355328 + 33) := Nat.mul_le_mul_right _ hn
      omega
end
end Go.Proofs.Ytakcnkmlglkkpaa

/- awake: what a Set of "a" answers, read off the last listing. A take in few words. -/
import Derived.Test.YtakcnkmlglkkpaaPkW1
import Derived.Test.YtakcnkmlglkkpaaPkR6

namespace Go.Proofs.Ytakcnkmlglkkpaa
open Go.RowKit
set_option linter.unusedSimpArgs false
set_option linter.unusedVariables false
open Classical

/-- A table beside an append to a row of another type. -/
theorem One.app {w0 W W' : World} {g : Nat} {L : Lists} {A A' : Option Addr} (h : One w0 W g L) (hat : AppAt W W' A A') (ht : ∀ j, blockOf A = some j → ∃ cs fr, W.heap[j]? = some (.cells cs 9 fr)) (hB : ∀ j, blockOf A = some j → w0.heap.size ≤ j := by intro j hj; first | cases hj | assumption) : One w0 W' g L := by
  have hg : Gro (fun j => blockOf A = some j) W W' := by
    rcases hat with ⟨_, h2⟩ | ⟨k, _, _, h3⟩
    · exact Gro.of_grown h2 fun j hj => hj
    · exact Gro.of_grown h3 fun j hj => by cases hj
  obtain ⟨lo, T, t⟩ := h
  have hty : ∀ {j : Nat} {cs2 : Array Value} {ty : TypeId} {fr : Nat × Nat}, blockOf A = some j → W.heap[j]? = some (.cells cs2 ty fr) → ty = 9 := fun hj h2 => by
    obtain ⟨cs, fr, h1⟩ := ht _ hj
    rw [h1] at h2
    injection h2 with h2
    injection h2 with _ h2 _
    exact h2.symm
  refine ⟨lo.trans (hg.below lo.size fun j hj => hB j hj), T, t.gro hg fun j hj => ⟨fun e => ?_, fun e => ?_, fun cs2 fr hc => absurd (hty hj hc) (by decide)⟩⟩
  · obtain ⟨cs2, ty, fr, h1, h2⟩ := t.tch j (.inl e)
    have := hty hj h1
    subst this
    rcases h2 with h2 | h2 <;> exact absurd h2 (by decide)
  · obtain ⟨cs2, ty, fr, h1, h2⟩ := t.tch j (.inr e)
    have := hty hj h1
    subst this
    rcases h2 with h2 | h2 <;> exact absurd h2 (by decide)
theorem Own.tchG {w0 W w' : World} {B : Nat} {e : TypeId} {size n c : Nat} {A : Option Addr} {xs : List Value} (h : Own W B e size A n c xs) (hg : Gro (fun j => Tch W j ∧ w0.heap.size ≤ j) W w') (he : ¬ (e = 68 ∨ e = 81)) : Own w' B e size A n c xs :=
  h.tch (hg.sub fun j hj => .inl hj.1) he
theorem gro_keep {w0 W w' : World} {M : Nat} {cs : Array Value} {t : TypeId} {fr : Nat × Nat} (hg : Gro (fun j => Tch W j ∧ w0.heap.size ≤ j) W w') (h : W.heap[M]? = some (.cells cs t fr)) (ht : ¬ (t = 68 ∨ t = 81)) : w'.heap[M]? = some (.cells cs t fr) :=
  (hg.block M (Array.getElem?_eq_some_iff.1 h).1 fun hj => ht (tch_type hj.1 h)).trans h
theorem listS_app (a b : List RootT) : listS (a ++ b) = listS a ++ listS b := by
  have h : ∀ (b : List RootT) (s : ByteArray), b.foldl (fun s x => s ++ rootS x) s = s ++ listS b := by
    intro b
    induction b with
    | nil => intro s; exact ByteArray.append_empty.symm
    | cons x b ih =>
      intro s
      have e : listS (x :: b) = rootS x ++ listS b := by
        show b.foldl (fun s x => s ++ rootS x) (⟨#[]⟩ ++ rootS x) = _
        rw [ih]
        congr 1
      rw [List.foldl_cons, ih, e, ByteArray.append_assoc]
  show (a ++ b).foldl (fun s x => s ++ rootS x) ⟨#[]⟩ = _
  rw [List.foldl_append, h]
  rfl
theorem listS_at {l : List RootT} {k : Nat} {x : RootT} (hx : l[k]? = some x) : ∃ r : ByteArray, listS l = listS (l.take k) ++ (strB [x.1.size % 256] ++ (x.1 ++ r)) ∧ 32 ≤ r.size := by
  obtain ⟨hk, rfl⟩ := List.getElem?_eq_some_iff.1 hx
  have e : l = l.take k ++ (l[k] :: l.drop (k + 1)) := by rw [← List.drop_eq_getElem_cons hk, List.take_append_drop]
  refine ⟨strB l[k].2.1 ++ listS (l.drop (k + 1)), ?_, ?_⟩
  · rw [show listS l = listS (l.take k ++ (l[k] :: l.drop (k + 1))) by rw [← e], listS_app]
    have e2 : listS (l[k] :: l.drop (k + 1)) = rootS l[k] ++ listS (l.drop (k + 1)) := by
      have := listS_app [l[k]] (l.drop (k + 1))
      rw [List.singleton_append] at this
      rw [this]
      congr 1
    rw [e2]
    unfold rootS
    simp only [ByteArray.append_assoc]
  · rw [ByteArray.size_append, strB_size, l[k].2.2]
    omega
theorem listS_pos {l : List RootT} {k : Nat} {x : RootT} (hx : l[k]? = some x) (h256 : x.1.size < 256) :
    ∃ h : (listS (l.take k)).size < (listS l).size, ((listS l)[(listS (l.take k)).size]'h).toNat = x.1.size ∧ (listS (l.take k)).size + 1 + x.1.size + 32 ≤ (listS l).size ∧ (listS l).extract ((listS (l.take k)).size + 1) ((listS (l.take k)).size + 1 + x.1.size) = x.1 := by
  obtain ⟨r, e, hr⟩ := listS_at hx
  have h1 : (strB [x.1.size % 256]).size = 1 := strB_size _
  have hs : (listS l).size = (listS (l.take k)).size + (1 + (x.1.size + r.size)) := by
    rw [e, ByteArray.size_append, ByteArray.size_append, ByteArray.size_append, h1]
  generalize listS (l.take k) = p at e hs ⊢
  generalize listS l = s at e hs ⊢
  subst e
  refine ⟨by omega, ?_, by omega, ?_⟩
  · rw [ByteArray.getElem_append_right (by omega)]
    simp only [Nat.sub_self]
    rw [ByteArray.getElem_append_left (by omega)]
    show (UInt8.ofNat (x.1.size % 256)).toNat = _
    simp
    omega
  · rw [show p.size + 1 + x.1.size = p.size + (1 + x.1.size) by omega, ByteArray.extract_append_size_add]
    have h2 := ByteArray.extract_append_size_add' (a := strB [x.1.size % 256]) (b := x.1 ++ r) (i := 0) (j := x.1.size) (k := 1) h1.symm
    rw [Nat.add_zero] at h2
    rw [h2]
    exact ByteArray.extract_append_eq_left rfl
def aS : ByteArray := ⟨#[97]⟩
theorem aS_list : aS.toList = [97] := by rw [ByteArray.toList_eq]; rfl
noncomputable def awQ (l : List RootT) : Nat := if hasL aS l then 0 else if 64 ≤ l.length then 131 else 0
theorem name_a : Name aS := by
  refine ⟨by decide, by decide, ?_⟩
  have h : aS.size = 1 := rfl
  rw [h]
  intro k hk
  obtain rfl : k = 0 := by omega
  have e : chOf aS 0 = 97 := rfl
  rw [e]
  unfold okC
  omega
theorem set_a (l : List RootT) : setQ l aS = awQ l := by
  unfold setQ awQ
  rw [if_pos name_a]
  by_cases h : hasL aS l <;> by_cases h2 : 64 ≤ l.length <;> simp [h, h2]
theorem listS_take {l : List RootT} {k : Nat} {x : RootT} (hx : l[k]? = some x) : (listS (l.take (k + 1))).size = (listS (l.take k)).size + (x.1.size + 33) := by
  rw [take_one hx, listS_snoc, ByteArray.size_append, rootS_size]
set_option maxRecDepth 100000 in
set_option maxHeartbeats 4000000 in
theorem awake_any (w : World) (l : List RootT) (hok : okL l) (h64 : l.length ≤ 64) (b off n c : Nat) (hn : 0 < n) (hn2 : n ≤ 5000) (hc : w.cell? ⟨b, off + (n - 1), none⟩ = some (.string (listS l))) :
    Calls Try.prog 21 #[.slice (some ⟨b, off, none⟩) n c] w fun e w' => e = .returned (.int .i64 (awQ l : Nat)) ∧ w = w' := by
  obtain ⟨n1, hn1⟩ : ∃ n1, Hid (∀ _ : Unit, n - 1 = n1) := ⟨_, Lib.hid fun _ => rfl⟩
  rw [hn1.out ()] at hc
  have hn1' := hn1.out ()
  have hsz : (listS l).size ≤ 64 * 65 := by
    rw [listS_size]
    have h1 := totS_named hok.2
    have h2 : l.length * 65 ≤ 64 * 65 := Nat.mul_le_mul_right _ h64
    omega
  have e1 : (n : Int) - 1 = (n1 : Int) := by omega
  have w1 : IntKind.i64.wrap (n1 : Int) = (n1 : Int) := by rw [IntKind.wrap_i64]; omega
  have g1 : (0 : Int) ≤ (n1 : Int) := by omega
  have g2 : (n1 : Int) < (n : Int) := by omega
  clear hn1'
  have hpos := Lib.hid fun (k : Nat) (x : RootT) (hx : l[k]? = some x) => listS_pos hx (by have := (hok.2 x (List.mem_of_getElem? hx)).2.1; omega)
  have hnm := Lib.hid fun (k : Nat) (x : RootT) (hx : l[k]? = some x) => (hok.2 x (List.mem_of_getElem? hx)).2.1
  have hfull : Hid (l.take l.length = l) := Lib.hid (List.take_of_length_le (Nat.le_refl _))
  obtain ⟨s, hs⟩ : ∃ s, Hid (∀ _ : Unit, listS l = s) := ⟨_, Lib.hid fun _ => rfl⟩
  rw [hs.out ()] at hc hsz hpos
  have hok' := Lib.hid hok
  clear hok
  go_enter Try.func21, Try.ntmps21
  go_wp2_with fail
  go_loop [4, 5] (fun nv iv => ∃ (k p : Nat), k ≤ l.length ∧ nv = .int .i64 (k : Int) ∧ iv = .int .i64 (p : Int) ∧ Hid (∀ _ : Unit, (listS (l.take k)).size = p) ∧ Hid (∀ (j : Nat) (x : RootT), j < k → l[j]? = some x → x.1.toList ≠ aS.toList)) (fun nv _ => l.length - (intOf nv).toNat)
  case atStart => exact ⟨0, 0, by omega, rfl, rfl, Lib.hid fun _ => by rw [List.take_zero]; rfl, Lib.hid fun j x hj => absurd hj (by omega)⟩
  case round =>
    obtain ⟨k, p, hk, rfl, rfl, hp, hno⟩ := hrel
    by_cases hkn : k < l.length
    · obtain ⟨x, hx⟩ : ∃ x, l[k]? = some x := ⟨_, List.getElem?_eq_getElem hkn⟩
      obtain ⟨hlt, hb, hle, hex⟩ := hpos.out k x hx
      have hx32 := hnm.out k x hx
      have hpn := listS_take hx
      simp only [hp.out ()] at hlt hb hle hex hpn
      obtain ⟨m, hm⟩ : ∃ m, x.1.size = m := ⟨_, rfl⟩
      rw [hm] at hb hle hex hx32 hpn
      have hpn' := Lib.hid hpn
      have hsl : (Instr.slice 9 (.string s) (some (.int .i64 ((p : Int) + 1))) (some (.int .i64 ((p : Int) + 1 + (m : Int)))) none).run Try.prog w = .ok (.string x.1) w := by
        rw [run_slice_string w 9 s .i64 .i64 ((p : Int) + 1) ((p : Int) + 1 + (m : Int)) Try.underlying9 (by omega) (by omega) (by omega)]
        rw [show ((p : Int) + 1).toNat = p + 1 by omega, show ((p : Int) + 1 + (m : Int)).toNat = p + 1 + m by omega, hex]
      have hx' := Lib.hid hx
      have hm' := Lib.hid hm
      clear hpn hx hm
      have q1 : (p : Int) < (s.size : Int) := by omega
      have q0 : (0 : Int) ≤ (p : Int) := by omega
      clear hex
      by_cases he : x.1.toList = aS.toList
      · have q2 : (x.1.toList == [97]) = true := by rw [he, aS_list]; rfl
        have hin := Lib.hid (show hasL aS l from ⟨x, List.mem_of_getElem? hx'.out, he⟩)
        clear he
        go_wp2_with fail
        go_ret
        exact ⟨by unfold awQ; rw [if_pos hin.out]; rfl, rfl⟩
      · have q2 : (x.1.toList == [97]) = false := by
          rw [aS_list] at he
          simpa using he
        have hno2 : Hid (∀ (j : Nat) (x : RootT), j < k + 1 → l[j]? = some x → x.1.toList ≠ aS.toList) := Lib.hid fun j y hj hy => by
          rcases Nat.lt_succ_iff_lt_or_eq.1 hj with h | rfl
          · exact hno.out j y h hy
          · rw [hx'.out] at hy
            cases hy
            exact he
        clear he
        go_wp2_with fail
        go_round
        case rel =>
          refine ⟨k + 1, p + m + 33, by omega, by go_num, ?_, Lib.hid fun _ => by rw [hpn'.out]; omega, hno2⟩
          congr 1
          omega
        case measure => simp [intOf]; omega
    · have hkl := Lib.hid (show k = l.length by omega)
      have hps : p = s.size := by
        rw [← hp.out (), ← hs.out (), hkl.out, hfull.out]
      have q1 : ¬ ((p : Int) < (s.size : Int)) := by omega
      have hni := Lib.hid (show ¬ hasL aS l from fun ⟨x, hx, he⟩ => by
        obtain ⟨j, hj, rfl⟩ := List.mem_iff_getElem.1 hx
        exact hno.out j _ (by rw [hkl.out]; exact hj) (List.getElem?_eq_getElem hj) he)
      clear hps
      by_cases h6 : 64 ≤ k
      · have q3 : (64 : Int) ≤ (k : Int) := by omega
        go_wp2_with fail
        go_ret
        exact ⟨by unfold awQ; rw [if_neg hni.out, if_pos (by have := hkl.out; omega)]; rfl, rfl⟩
      · have q3 : ¬ ((64 : Int) ≤ (k : Int)) := by omega
        go_wp2_with fail
        go_ret
        exact ⟨by unfold awQ; rw [if_neg hni.out, if_neg (by have := hkl.out; omega)]; rfl, rfl⟩
end Go.Proofs.Ytakcnkmlglkkpaa

namespace Go.Proofs.Ytakcnkmlglkkpaa
open Go.RowKit
set_option linter.unusedSimpArgs false
set_option linter.unusedVariables false

theorem tk {P : Program} {md : Region.Mode} {ops : Array Oper} {Q : Exit → Act → World → Prop} {S : World → Prop} {i d : Nat} {oi : Oper} {v : Value} {fuel : Nat} {listed : Array Bool} {t : Array Value} {df : List Deferred} {w : World} (hi : ops[i]? = some oi) (hd : oi.dst = some d)
    (hy : YieldsIf P ops S oi v ⟨t, df⟩) (hS : S w) (h : wpAnyH P md ops Q S fuel (listed.setIfInBounds i true) ⟨t.setIfInBounds d v, df⟩ w)
    (hs : Region.noSelect ops = true := by kernel_rfl) (hf : Region.free md ops listed i = true := by kernel_rfl) (hr : (Region.ready md ops listed).contains i = true := by kernel_rfl)
    (hQ : ∀ c a w, Q (.panic c) (a.put oi.dst v) w → Q (.panic c) a w := by exact fun _ _ _ h => h) : wpAnyH P md ops Q S (fuel + 1) listed ⟨t, df⟩ w :=
  takeD hi hd hs hf hr hQ hy hS h
end Go.Proofs.Ytakcnkmlglkkpaa

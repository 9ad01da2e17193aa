/- few; RiskScores: the walk. -/
import Derived.Test.YtbcbffmbpoffpaaAlive
import Derived.Test.YtbcbffmbpoffpaaNum5
import Derived.OpenShut
namespace Go.Proofs.Ytbcbffmbpoffpaa
open Go.RowKit Go.Maps Go.ChangeShapes Go.WideShapes Go.ChangeAt

def fewB (l : List Sig) : Bool := l.all (fun x => decide (x.1.length ≤ 100)) && decide (l.length ≤ 20)
def longB (x : Sig) : Bool := decide (100 < x.1.length)
theorem few_no {l : List Sig} {k : Nat} (hk : k < l.length) (hp : longB l[k] = true) : fewB l = false := by
  unfold fewB
  rw [Bool.and_eq_false_iff]
  left
  rw [List.all_eq_false]
  exact ⟨_, List.getElem_mem hk, by simpa [longB] using hp⟩
theorem few_end {l : List Sig} (h : ∀ x ∈ l, longB x = false) : fewB l = decide (l.length ≤ 20) := by
  unfold fewB
  rw [show l.all (fun x => decide (x.1.length ≤ 100)) = true from List.all_eq_true.2 (fun x hx => by have := h x hx; simpa [longB] using this)]
  rfl
theorem few_len {l : List Sig} (h : fewB l = true) : l.length ≤ 20 := by
  unfold fewB at h
  simp at h
  exact h.2
set_option maxHeartbeats 400000 in
theorem few_any {w : World} {a : Option Addr} {cap : Nat} {l : List Sig} (h : SigsAt w a l) :
    Calls Try.prog 9 #[.slice a l.length cap] w fun e w' => e = .returned (.bool (fewB l)) ∧ w = w' := by
  have hf := h.few
  unfold maxLen at hf
  go_enter Try.func9, Try.ntmps9
  go_wp2_with fail
  go_loop [3] (fun i => ∃ k : Nat, k ≤ l.length ∧ i = .int .i64 k ∧ NoneTo longB l k) (fun i => l.length - (intOf i).toNat)
  case atStart => exact ⟨0, Nat.zero_le _, rfl, NoneTo.zero _ _⟩
  case round =>
    obtain ⟨k, hk, rfl, hn⟩ := hrel
    by_cases hlt : k < l.length
    · obtain ⟨b, off, rfl, hb, hc0, hc1⟩ := SigsAt.get h hlt
      have hb1 : (0 : Int) ≤ k := by omega
      have hb2 : (k : Int) < l.length := by omega
      have hle : (⟨l[k].1.toArray⟩ : ByteArray).size = l[k].1.length := by simp [ByteArray.size]
      cases hp : longB l[k]
      · have h1 : ¬ 100 < l[k].1.length := by simpa [longB] using hp
        have HP := hid hp
        clear hp
        go_wp2_with fail
        go_round
        case rel => exact ⟨k + 1, by omega, by go_num, hn.next hlt HP.out⟩
        case measure => simp [intOf]; omega
      · have h1 : 100 < l[k].1.length := by simpa [longB] using hp
        have HP := hid hp
        clear hp
        go_wp2_with fail
        go_ret
        exact ⟨ret_bool (few_no hlt HP.out).symm, rfl⟩
    · have hx := hid (few_end (hn.all (by omega)))
      go_wp2_with fail
      go_ret
      exact ⟨ret_bool (by rw [hx.out, Bool.eq_iff_iff, decide_eq_true_eq, decide_eq_true_eq]; omega), rfl⟩

theorem int_bd {n : Int} (h : (Lit.int .i64 n).wf = true) : -9223372036854775808 ≤ n ∧ n ≤ 9223372036854775807 := by
  exact bounds_i64 h
theorem sig_open {H : Type} {enc : TypeId × Value → H} {w : World} {b o n : Nat} {cs : List Value} {y : DataW H × List MemPlace} (hl : cs.length = 2) (hc : ∀ j, j < 2 → w.cell? ⟨b, o + j, none⟩ = cs[j]?) (h : DataW.trod enc Try.prog w 0 (fun _ => true) true n 43 cs = some y) :
    ∃ x : Sig, CEnc encG w b o x ∧ (-9223372036854775808 ≤ x.2 ∧ x.2 ≤ 9223372036854775807) := by
  obtain ⟨xs, m, _, _, _, hlen, hf⟩ := DataW.trod_struct Try.underlying43 h
  have hlen4 : xs.length = 2 := hlen
  have zi : Try.prog.cellsOf 9 = 1 := by kernel_rfl
  have zj : Try.prog.cellsOf 3 = 1 := by kernel_rfl
  have f0 := hf 0 _ rfl
  have f1 := hf 1 _ rfl
  match cs, hl, xs, hlen4 with
  | [c0, c1], _, [x0, x1], _ =>
    obtain ⟨n0, e0, hn0⟩ := DataW.trod_string Try.underlying9 f0
    obtain ⟨n1, e1, hn1⟩ := DataW.trod_int Try.underlying3 f1
    obtain ⟨_, hw⟩ := hn1
    have k0 : c0 = .string n0 := by simpa [zi] using e0
    have k1 : c1 = .int .i64 n1 := by simpa [zj] using e1
    refine ⟨(n0.data.toList, n1), fun j v hv => ?_, int_bd hw⟩
    have hj : j < 2 := by
      rcases Nat.lt_or_ge j 2 with h1 | h1
      · exact h1
      · rw [List.getElem?_eq_none (by simp [encG]; omega)] at hv; cases hv
    rw [hc j hj, ← hv, k0, k1]
    simp [encG, sV]
theorem sigs_open {H : Type} {enc : TypeId × Value → H} {w : World} {a : Option Addr} {len cap : Nat} {d : DataW H} {p : List MemPlace}
    (h : DataW.Trod enc Try.prog w 0 (fun _ => true) true 22 (.slice a len cap) d p) : ∃ l : List Sig, l.length = len ∧ (SigsAt w a l ∧ FitS l) := by
  obtain ⟨h1, h2, h3⟩ := slice_open Try.underlying22 (sz := 2) (by kernel_rfl) (by omega) h
  rcases h3 with h3 | ⟨b, off, ha, hb, hel⟩
  · exact ⟨[], h3.symm, list_nil w a, fun x hx => by simp at hx⟩
  · obtain ⟨l, hl, hp⟩ := list_of (α := Sig) (p := fun i x => CEnc encG w b (off + i * 2) x ∧ (-9223372036854775808 ≤ x.2 ∧ x.2 ≤ 9223372036854775807)) (fun i hi => by
      obtain ⟨cs, y, n, e1, e2, e3⟩ := hel i hi
      exact sig_open e1 e2 e3)
    refine ⟨l, hl, ⟨.inr ⟨b, off, ha, hb, fun i hi => (hp i hi).1⟩, by omega⟩, fun x hx => ?_⟩
    obtain ⟨i, hi, rfl⟩ := List.getElem_of_mem hx
    exact (hp i hi).2

theorem Kept.bel {w w' : World} (k : Kept [] w w') : Below w.heap.size w w' := k.toBelow (by simp)
set_option maxHeartbeats 1000000 in
set_option maxRecDepth 100000 in
theorem scores_walk {w : World} {a b : Option Addr} {cap cap2 : Nat} {l ws : List Sig} (h : SigsAt w a l ∧ FitS l) (h2 : SigsAt w b ws ∧ FitS ws) (score : Int) (_hs : (Lit.int .i64 score).wf = true) :
    Calls Try.prog 3 #[.slice a l.length cap, .slice b ws.length cap2, .int .i64 score] w fun e w' => e = .returned (.bool true) ∧ Below w.heap.size w w' := by
  have hf1 := hid (few_any (cap := cap) h.1)
  have hf2 := hid (few_any (cap := cap2) h2.1)
  by_cases t1 : fewB l = true
  · rw [t1] at hf1
    by_cases t2 : fewB ws = true
    · rw [t2] at hf2
      have HSC := hid (score_any (cap := cap) (cap2 := cap2) h.1 h2.1 (by have := few_len t1; omega) h.2 h2.2)
      have HSR := hid (fun wq (k : Kept [] w wq) => rscore_any (cap := cap) (cap2 := cap2) (h.1.keptN k) (h2.1.keptN k) (by have := few_len t1; omega) h.2 h2.2)
      generalize clampZ (sumZ ws l) = n at *
      have q1 : (n == n) = true := beq_self_eq_true _
      have q2 : (bandS score == bandS score) = true := beq_self_eq_true _
      have q3 : (bandS n == bandS n) = true := beq_self_eq_true _
      clear t1 t2 h h2
      go_enter Try.func3, Try.ntmps3
      go_wp2_with fail
      refine hf1.out.mono ?_
      rintro e w' ⟨rfl, rfl⟩
      go_wp2_with fail
      refine hf2.out.mono ?_
      rintro e w' ⟨rfl, rfl⟩
      go_wp2_with fail
      refine HSC.out.mono ?_
      rintro e w1 ⟨rfl, k1⟩
      go_wp2_with fail
      refine (HSR.out _ k1).mono ?_
      rintro e w2 ⟨rfl, k2⟩
      go_wp2_with fail
      refine (band_any score _).mono ?_
      rintro e w3 ⟨rfl, k3⟩
      go_wp2_with fail
      refine (rband_any score _).mono ?_
      rintro e w' ⟨rfl, rfl⟩
      go_wp2_with fail
      refine (band_any n _).mono ?_
      rintro e w4 ⟨rfl, k4⟩
      go_wp2_with fail
      refine (rband_any n _).mono ?_
      rintro e w' ⟨rfl, rfl⟩
      go_wp2_with fail
      refine (alive_any _).mono ?_
      rintro e w5 ⟨rfl, k5⟩
      go_wp2_with fail
      go_ret
      exact ⟨rfl, ((((k1.step k2 (by simp)).step k3 (by simp)).step k4 (by simp)).step k5 (by simp)).bel⟩
    · rw [Bool.not_eq_true] at t2
      rw [t2] at hf2
      clear t1 t2 h h2
      go_enter Try.func3, Try.ntmps3
      go_wp2_with fail
      refine hf1.out.mono ?_
      rintro e w' ⟨rfl, rfl⟩
      go_wp2_with fail
      refine hf2.out.mono ?_
      rintro e w' ⟨rfl, rfl⟩
      go_wp2_with fail
      refine (alive_any _).mono ?_
      rintro e w5 ⟨rfl, k5⟩
      go_wp2_with fail
      go_ret
      exact ⟨rfl, k5.bel⟩
  · rw [Bool.not_eq_true] at t1
    rw [t1] at hf1
    clear t1 h h2
    go_enter Try.func3, Try.ntmps3
    go_wp2_with fail
    refine hf1.out.mono ?_
    rintro e w' ⟨rfl, rfl⟩
    go_wp2_with fail
    refine (alive_any _).mono ?_
    rintro e w5 ⟨rfl, k5⟩
    go_wp2_with fail
    go_ret
    exact ⟨rfl, k5.bel⟩
end Go.Proofs.Ytbcbffmbpoffpaa

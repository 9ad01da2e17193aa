/- StrengthNeeds: the walk. -/
import Derived.Test.YtmipnhdfhgekkaaOps
namespace Go.Proofs.Ytmipnhdfhgekkaa
open Go.RowKit

theorem IntsAt.keptN {w w' : World} {a : Option Addr} {l : List Int} (h : IntsAt w a l) (k : Kept [] w w') : IntsAt w' a l := SeqAt.kept h CInt.lasts k (by simp)
set_option maxHeartbeats 1000000 in
theorem needs_walk {w : World} {a : Option Addr} {cap : Nat} {l : List Prf} (h : PrfsAt w a l ∧ l.length ≤ cap ∧ cap ≤ maxLen) (level : Int) (_hl : (Lit.int .i64 level).wf = true) (age : Int) (_ha : (Lit.int .i64 age).wf = true) (now : Int) (_hn : (Lit.int .i64 now).wf = true) :
    Calls Try.prog 5 #[.slice a l.length cap, .int .i64 level, .int .i64 age, .int .i64 now] w fun e w' => e = .returned (.bool true) ∧ Below w.heap.size w w' := by
  have hp := h.1
  clear h _hl _ha _hn
  by_cases hm : 20 < l.length
  · have HM : decide (20 < l.length) = true := by simpa using hm
    have HL := hid (many_any (a := a) (cap := cap) (n := l.length) w)
    rw [HM] at HL
    go_enter Try.func5, Try.ntmps5
    go_wp2_with (first
      | (go_at_call 9; refine HL.out.mono ?_; rintro e w' ⟨rfl, rfl⟩)
      | (go_at_call 10; refine (live_any _).mono ?_; rintro e w1 ⟨rfl, k1⟩))
    go_ret
    exact ⟨rfl, k1.bel⟩
  · have HM : decide (20 < l.length) = false := by simpa using hm
    have HL := hid (many_any (a := a) (cap := cap) (n := l.length) w)
    rw [HM] at HL
    have hle : l.length ≤ 1000 := by omega
    have hnl : (needL l level age now).length ≤ 3 := by
      unfold needL
      split
      · simp
      · split
        · simp
        · exact needTo_le _ _ 3
    have HN := hid (fun wq (k : Kept [] w wq) => needed_any (cap := cap) (hp.kept k) hle level age now)
    have HR := hid (fun wq (k : Kept [] w wq) => rneeded_any (cap := cap) (hp.kept k) hle level age now)
    generalize needL l level age now = f at *
    generalize needE level = en at *
    clear hm
    go_enter Try.func5, Try.ntmps5
    go_wp2_with (first
      | (go_at_call 9; refine HL.out.mono ?_; rintro e w' ⟨rfl, rfl⟩)
      | (go_at_call 20; refine (HN.out _ (Kept.refl _ _)).mono ?_; rintro e w1 ⟨a1, c1, rfl, o1⟩)
      | (go_at_call 21; refine (HR.out _ o1.kept).mono ?_; rintro e w2 ⟨a2, c2, rfl, o2⟩))
    have hs1 := (o1.later o2.kept).seq
    have hs2 := o2.seq
    have hk2 : Kept [] w w2 := o1.kept.step o2.kept (by simp)
    go_loopw [45] (fun i wr => ∃ k n : Nat, k ≤ f.length ∧ i = .int .i64 k ∧ wr = w2.drewN n) (fun i _ => f.length - (intOf i).toNat)
    case atStart => exact ⟨0, 0, Nat.zero_le _, rfl, rfl⟩
    case round =>
      obtain ⟨k, n, hk, rfl, rfl⟩ := hrel
      by_cases hlt : k < f.length
      · obtain ⟨b1, off, rfl, hb, hc0⟩ := hs1.at hlt
        obtain ⟨b2, off2, rfl, hb2, hd0⟩ := hs2.at hlt
        unfold CInt at hc0 hd0
        simp only [Nat.mul_one] at hc0 hd0
        have hb1 : (0 : Int) ≤ k := by omega
        have hb2 : (k : Int) < f.length := by omega
        have q0 : (f[k] == f[k]) = true := beq_self_eq_true _
        go_wp2_with (go_quiet (fail))
        go_roundw
        case rel => exact ⟨k + 1, _, by omega, by go_num, rfl⟩
        case measure => simp [intOf]; omega
      · go_wp2_with (go_at_call 10; refine (live_any _).mono ?_; rintro e w6 ⟨rfl, k6⟩)
        go_ret
        exact ⟨rfl, ((hk2.drewN n).step k6 (by simp)).bel⟩
end Go.Proofs.Ytmipnhdfhgekkaa

/- StrengthGrows: the walk. -/
import Derived.Test.YtmipnhdfhgekkaaApp
namespace Go.Proofs.Ytmipnhdfhgekkaa
open Go.RowKit

set_option maxHeartbeats 1000000 in
set_option maxRecDepth 100000 in
theorem grows_walk {w : World} {a b : Option Addr} {cap cap2 : Nat} {l m : List Prf} (h : PrfsAt w a l ∧ l.length ≤ cap ∧ cap ≤ maxLen) (h2 : PrfsAt w b m ∧ m.length ≤ cap2 ∧ cap2 ≤ maxLen) (level : Int) (_hl : (Lit.int .i64 level).wf = true) (age : Int) (_ha : (Lit.int .i64 age).wf = true) (now : Int) (_hn : (Lit.int .i64 now).wf = true) (less : Int) (_hs : (Lit.int .i64 less).wf = true) (more : Int) (_hr : (Lit.int .i64 more).wf = true) :
    Calls Try.prog 7 #[.slice a l.length cap, .slice b m.length cap2, .int .i64 level, .int .i64 age, .int .i64 now, .int .i64 less, .int .i64 more] w fun e w' => e = .returned (.bool true) ∧ Below w.heap.size w w' := by
  have hp := h.1
  have hq := h2.1
  clear h h2 _hl _ha _hn _hs _hr
  have HL := hid (many_any (a := a) (cap := cap) (n := l.length) w)
  have HM := hid (many_any (a := b) (cap := cap2) (n := m.length) w)
  by_cases t0 : 20 < l.length
  · rw [show decide (20 < l.length) = true by simpa using t0] at HL
    go_enter Try.func7, Try.ntmps7
    go_wp2_with (first
      | (go_at_call 9; refine HL.out.mono ?_; rintro e w' ⟨rfl, rfl⟩)
      | (go_at_call 9; refine HM.out.mono ?_; rintro e w' ⟨rfl, rfl⟩)
      | (go_at_call 10; refine (live_any _).mono ?_; rintro e w1 ⟨rfl, k1⟩))
    go_ret
    exact ⟨rfl, k1.bel⟩
  rw [show decide (20 < l.length) = false by simpa using t0] at HL
  by_cases t1 : 20 < m.length
  · rw [show decide (20 < m.length) = true by simpa using t1] at HM
    go_enter Try.func7, Try.ntmps7
    go_wp2_with (first
      | (go_at_call 9; refine HL.out.mono ?_; rintro e w' ⟨rfl, rfl⟩)
      | (go_at_call 9; refine HM.out.mono ?_; rintro e w' ⟨rfl, rfl⟩)
      | (go_at_call 10; refine (live_any _).mono ?_; rintro e w1 ⟨rfl, k1⟩))
    go_ret
    exact ⟨rfl, k1.bel⟩
  rw [show decide (20 < m.length) = false by simpa using t1] at HM
  by_cases t2 : less < 0
  · go_enter Try.func7, Try.ntmps7
    go_wp2_with (first
      | (go_at_call 9; refine HL.out.mono ?_; rintro e w' ⟨rfl, rfl⟩)
      | (go_at_call 9; refine HM.out.mono ?_; rintro e w' ⟨rfl, rfl⟩)
      | (go_at_call 10; refine (live_any _).mono ?_; rintro e w1 ⟨rfl, k1⟩))
    go_ret
    exact ⟨rfl, k1.bel⟩
  by_cases t3 : 5 < less
  · go_enter Try.func7, Try.ntmps7
    go_wp2_with (first
      | (go_at_call 9; refine HL.out.mono ?_; rintro e w' ⟨rfl, rfl⟩)
      | (go_at_call 9; refine HM.out.mono ?_; rintro e w' ⟨rfl, rfl⟩)
      | (go_at_call 10; refine (live_any _).mono ?_; rintro e w1 ⟨rfl, k1⟩))
    go_ret
    exact ⟨rfl, k1.bel⟩
  by_cases t4 : level < -10
  · go_enter Try.func7, Try.ntmps7
    go_wp2_with (first
      | (go_at_call 9; refine HL.out.mono ?_; rintro e w' ⟨rfl, rfl⟩)
      | (go_at_call 9; refine HM.out.mono ?_; rintro e w' ⟨rfl, rfl⟩)
      | (go_at_call 10; refine (live_any _).mono ?_; rintro e w1 ⟨rfl, k1⟩))
    go_ret
    exact ⟨rfl, k1.bel⟩
  by_cases t5 : 10 < level
  · go_enter Try.func7, Try.ntmps7
    go_wp2_with (first
      | (go_at_call 9; refine HL.out.mono ?_; rintro e w' ⟨rfl, rfl⟩)
      | (go_at_call 9; refine HM.out.mono ?_; rintro e w' ⟨rfl, rfl⟩)
      | (go_at_call 10; refine (live_any _).mono ?_; rintro e w1 ⟨rfl, k1⟩))
    go_ret
    exact ⟨rfl, k1.bel⟩
  have hs20 : l.length ≤ 20 ∧ m.length ≤ 20 := by omega
  have hl1 : l.length ≤ 1000 := by omega
  have hl2 : m.length ≤ 1000 := by omega
  have hff := hid (fresh_twice l now age)
  have hfl : (freshL l now age).length ≤ 1000 := Nat.le_trans (List.length_filter_le _ _) hl1
  cases hm : meetsB l level age now
  · have HB := hid hm
    clear hm t0 t1
    go_enter Try.func7, Try.ntmps7
    go_wp2_with (first
      | (go_at_call 9; refine HL.out.mono ?_; rintro e w' ⟨rfl, rfl⟩)
      | (go_at_call 9; refine HM.out.mono ?_; rintro e w' ⟨rfl, rfl⟩))
    refine (fresh_any hp now age hl1).mono ?_
    rintro e w1 ⟨a1, c1, rfl, o1⟩
    go_wp2_with fail
    refine (fresh_any o1.seq now age hfl).mono ?_
    rw [hff.out]
    rintro e w2 ⟨a2, c2, rfl, o2⟩
    go_wp2_with fail
    refine (same_any o2.seq (o1.later o2.kept).seq rfl).mono ?_
    rintro e w3 ⟨rfl, n3, rfl⟩
    go_wp2_with fail
    refine (live_any _).mono ?_
    rintro e w4 ⟨rfl, k4⟩
    have j4 := ((o1.kept.step o2.kept (by simp)).drewN n3).step k4 (by simp)
    go_wp2_with fail
    refine (meets_any (hp.kept j4) hl1 level age now).mono ?_
    rw [HB.out]
    rintro e w5 ⟨rfl, k5⟩
    have j5 := j4.step k5 (by simp)
    go_wp2_with fail
    go_ret
    exact ⟨rfl, j5.bel⟩
  · have HB := hid hm
    clear hm t0 t1
    go_enter Try.func7, Try.ntmps7
    go_wp2_with (first
      | (go_at_call 9; refine HL.out.mono ?_; rintro e w' ⟨rfl, rfl⟩)
      | (go_at_call 9; refine HM.out.mono ?_; rintro e w' ⟨rfl, rfl⟩))
    refine (fresh_any hp now age hl1).mono ?_
    rintro e w1 ⟨a1, c1, rfl, o1⟩
    go_wp2_with fail
    refine (fresh_any o1.seq now age hfl).mono ?_
    rw [hff.out]
    rintro e w2 ⟨a2, c2, rfl, o2⟩
    go_wp2_with fail
    refine (same_any o2.seq (o1.later o2.kept).seq rfl).mono ?_
    rintro e w3 ⟨rfl, n3, rfl⟩
    go_wp2_with fail
    refine (live_any _).mono ?_
    rintro e w4 ⟨rfl, k4⟩
    have j4 := ((o1.kept.step o2.kept (by simp)).drewN n3).step k4 (by simp)
    go_wp2_with fail
    refine (meets_any (hp.kept j4) hl1 level age now).mono ?_
    rw [HB.out]
    rintro e w5 ⟨rfl, k5⟩
    have j5 := j4.step k5 (by simp)
    have A1 := meets_app m HB.out
    have A2 := hid (meets_less less (by omega) HB.out)
    have A3 := hid (meets_more more HB.out)
    obtain ⟨M, HMM⟩ : ∃ M, Hid (M = l ++ m) := ⟨_, hid rfl⟩
    have hM : M.length ≤ 1000 := by rw [HMM.out]; simp; omega
    rw [← HMM.out] at A1
    have A1 := hid A1
    have om := Own.made w5
    have jm := j5.alloc (.cells #[] 36 (0, 0))
    have hp5 := hp.kept jm
    go_wp2_with (first
      | (at_builtin; refine wp_app HMM.out o6' (hq.kept (j5.step o6'.kept (by simp))) (by omega) rfl _ _ rfl rfl rfl ?_; intro a7 c7 w7 o7)
      | (at_builtin; refine wp_app (n := l) rfl om hp5 (by simp; omega) rfl _ _ rfl rfl rfl ?_; intro a6 c6 w6 o6; have o6' := o6))
    have j7 := j5.step o7.kept (by simp)
    refine (meets_any o7.seq (by omega) level age now).mono ?_
    rw [A1.out]
    rintro e w8 ⟨rfl, k8⟩
    have j8 := j7.step k8 (by simp)
    go_wp2_with fail
    refine (meets_any (hp.kept j8) hl1 (level - less) age now).mono ?_
    rw [A2.out]
    rintro e w9 ⟨rfl, k9⟩
    have j9 := j8.step k9 (by simp)
    go_wp2_with fail
    refine (cadd_any age more _).mono ?_
    rintro e w' ⟨rfl, rfl⟩
    go_wp2_with fail
    refine (meets_any (hp.kept j9) hl1 level _ now).mono ?_
    rw [A3.out]
    rintro e w10 ⟨rfl, k10⟩
    go_wp2_with fail
    go_ret
    exact ⟨rfl, (j9.step k10 (by simp)).bel⟩
end Go.Proofs.Ytmipnhdfhgekkaa

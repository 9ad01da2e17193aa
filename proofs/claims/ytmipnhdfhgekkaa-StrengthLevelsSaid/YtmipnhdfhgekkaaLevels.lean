/- StrengthLevels: the walk. -/
import Derived.Test.YtmipnhdfhgekkaaApp
namespace Go.Proofs.Ytmipnhdfhgekkaa
open Go.RowKit

/-! ### repetitions and order do not matter -/
theorem has_same {l m : List Prf} (h : ∀ x, x ∈ l ↔ x ∈ m) (f : Int) : hasL l f = hasL m f := by
  rw [Bool.eq_iff_iff]
  exact ⟨has_mem (fun x hx => (h x).1 hx) f, has_mem (fun x hx => (h x).2 hx) f⟩
theorem level_same {l m : List Prf} (h : ∀ x, x ∈ l ↔ x ∈ m) : levelL l = levelL m :=
  Int.le_antisymm (level_mono fun f => has_mem (fun x hx => (h x).1 hx) f) (level_mono fun f => has_mem (fun x hx => (h x).2 hx) f)
theorem cnt_same {l m : List Prf} (h : ∀ x, x ∈ l ↔ x ∈ m) : cntL l = cntL m :=
  Int.le_antisymm (cntTo_mono (fun f => has_mem (fun x hx => (h x).1 hx) f) 3) (cntTo_mono (fun f => has_mem (fun x hx => (h x).2 hx) f) 3)
/-- What AuthTime gives: the greatest time of those that count, or none. -/
def IsAuth (none : Bool) (l : List Prf) (s : Int × Bool) : Prop :=
  (s = (0, false) ∧ ∀ x ∈ l, countsB none x.1 = false) ∨ (s.2 = true ∧ (∃ x ∈ l, countsB none x.1 = true ∧ x.2 = s.1) ∧ ∀ x ∈ l, countsB none x.1 = true → x.2 ≤ s.1)
theorem isAuth_step {none : Bool} {l : List Prf} {s : Int × Bool} (h : IsAuth none l s) (p : Prf) : IsAuth none (l ++ [p]) (authStep none s p) := by
  unfold authStep
  cases hc : countsB none p.1
  · simp only [Bool.false_and, Bool.false_eq_true, if_false]
    rcases h with ⟨h1, h2⟩ | ⟨h1, ⟨x, hx, h2, h3⟩, h4⟩
    · refine .inl ⟨h1, fun x hx => ?_⟩
      rcases List.mem_append.1 hx with hx | hx
      · exact h2 x hx
      · obtain rfl : x = p := by simpa using hx
        exact hc
    · refine .inr ⟨h1, ⟨x, List.mem_append_left _ hx, h2, h3⟩, fun y hy hcy => ?_⟩
      rcases List.mem_append.1 hy with hy | hy
      · exact h4 y hy hcy
      · obtain rfl : y = p := by simpa using hy
        rw [hc] at hcy; cases hcy
  · rcases h with ⟨rfl, h2⟩ | ⟨h1, ⟨x, hx, h2, h3⟩, h4⟩
    · simp only [Bool.not_false, Bool.true_or, Bool.and_self, if_true]
      refine .inr ⟨rfl, ⟨p, by simp, hc, rfl⟩, fun y hy hcy => ?_⟩
      rcases List.mem_append.1 hy with hy | hy
      · rw [h2 y hy] at hcy; cases hcy
      · obtain rfl : y = p := by simpa using hy
        exact Int.le_refl _
    · rw [h1]
      by_cases hlt : s.1 < p.2
      · simp only [hlt, decide_true, Bool.or_true, Bool.and_self, if_true]
        refine .inr ⟨rfl, ⟨p, by simp, hc, rfl⟩, fun y hy hcy => ?_⟩
        rcases List.mem_append.1 hy with hy | hy
        · have := h4 y hy hcy; dsimp only; omega
        · obtain rfl : y = p := by simpa using hy
          exact Int.le_refl _
      · simp only [hlt, decide_false, Bool.not_true, Bool.or_self, Bool.and_false, Bool.false_eq_true, if_false]
        refine .inr ⟨h1, ⟨x, List.mem_append_left _ hx, h2, h3⟩, fun y hy hcy => ?_⟩
        rcases List.mem_append.1 hy with hy | hy
        · exact h4 y hy hcy
        · obtain rfl : y = p := by simpa using hy
          omega
theorem isAuth_to (l : List Prf) : ∀ k, k ≤ l.length → IsAuth (cntL l == 0) (l.take k) (authTo l k)
  | 0, _ => .inl ⟨rfl, by simp⟩
  | k + 1, h => by
    rw [authTo_snoc l k (by omega), List.take_succ_eq_append_getElem (by omega)]
    exact isAuth_step (isAuth_to l k (by omega)) _
theorem auth_same {l m : List Prf} (h : ∀ x, x ∈ l ↔ x ∈ m) : authL l = authL m := by
  have a := isAuth_to l l.length (Nat.le_refl _)
  have b := isAuth_to m m.length (Nat.le_refl _)
  rw [List.take_length] at a b
  rw [← cnt_same h] at b
  unfold authL
  rcases a with ⟨a1, a2⟩ | ⟨a1, ⟨x, hx, a2, a3⟩, a4⟩
  · rcases b with ⟨b1, b2⟩ | ⟨b1, ⟨y, hy, b2, b3⟩, b4⟩
    · rw [a1, b1]
    · rw [a2 y ((h y).2 hy)] at b2; cases b2
  · rcases b with ⟨b1, b2⟩ | ⟨b1, ⟨y, hy, b2, b3⟩, b4⟩
    · rw [b2 x ((h x).1 hx)] at a2; cases a2
    · have c1 := a4 y ((h y).2 hy) b2
      have c2 := b4 x ((h x).1 hx) a2
      omega
theorem turned_mem (l : List Prf) (k : Nat) : ∀ x, x ∈ l.drop k ++ l.take k ++ l.take k ↔ x ∈ l := by
  intro x
  constructor
  · intro hx
    rcases List.mem_append.1 hx with hx | hx
    · rcases List.mem_append.1 hx with hx | hx
      · exact List.mem_of_mem_drop hx
      · exact List.mem_of_mem_take hx
    · exact List.mem_of_mem_take hx
  · intro hx
    rw [← List.take_append_drop k l] at hx
    rcases List.mem_append.1 hx with hx | hx
    · exact List.mem_append_right _ hx
    · exact List.mem_append_left _ (List.mem_append_left _ hx)

theorem prfs_take0 {w : World} {a : Option Addr} {l : List Prf} (h : PrfsAt w a l) (k : Nat) : PrfsAt w a (l.take k) := by
  refine ⟨?_, Nat.le_trans (by simp; omega) h.few⟩
  rcases h.cells with rfl | ⟨b, off, e, hb, hc⟩
  · exact .inl (by simp)
  · exact .inr ⟨b, off, e, hb, fun i hi => by rw [List.getElem_take]; exact hc i (by simp at hi; omega)⟩
set_option maxHeartbeats 1000000 in
set_option maxRecDepth 100000 in
theorem levels_walk {w : World} {a : Option Addr} {cap : Nat} {l : List Prf} (h : PrfsAt w a l ∧ l.length ≤ cap ∧ cap ≤ maxLen) (k : Int) (_hk : (Lit.int .i64 k).wf = true) :
    Calls Try.prog 3 #[.slice a l.length cap, .int .i64 k] w fun e w' => e = .returned (.bool true) ∧ Below w.heap.size w w' := by
  have hp := h.1
  have hcap := h.2
  clear h _hk
  have HL := hid (many_any (a := a) (cap := cap) (n := l.length) w)
  by_cases t0 : 20 < l.length
  · rw [show decide (20 < l.length) = true by simpa using t0] at HL
    go_enter Try.func3, Try.ntmps3
    go_wp2_with (first
      | (go_at_call 9; refine HL.out.mono ?_; rintro e w' ⟨rfl, rfl⟩)
      | (go_at_call 10; refine (live_any _).mono ?_; rintro e w1 ⟨rfl, k1⟩))
    go_ret
    exact ⟨rfl, k1.bel⟩
  rw [show decide (20 < l.length) = false by simpa using t0] at HL
  obtain ⟨b1, b2⟩ := level_bd l
  have HA := hid (fun wq (q : Kept [] w wq) => level_any (cap := cap) (hp.kept q))
  have HB := hid (fun wq (q : Kept [] w wq) => rlevel_any (cap := cap) (hp.kept q))
  have HC := hid (fun wq (q : Kept [] w wq) => auth_any (cap := cap) (hp.kept q))
  have HD := hid (fun wq (q : Kept [] w wq) => rauth_any (cap := cap) (hp.kept q))
  have EL := hid (level_same (turned_mem l k.toNat))
  have EA := hid (auth_same (turned_mem l k.toNat))
  generalize levelL l = n at *
  generalize authL l = t at *
  have q1 : (n == n) = true := beq_self_eq_true _
  have q2 : (t == t) = true := beq_self_eq_true _
  have hl20 : l.length ≤ 20 := by omega
  clear t0
  by_cases t2 : k < 0
  · clear EL EA
    go_enter Try.func3, Try.ntmps3
    go_wp2_with (first
      | (go_at_call 9; refine HL.out.mono ?_; rintro e w' ⟨rfl, rfl⟩)
      | (go_at_call 11; refine (HA.out _ (Kept.refl _ _)).mono ?_; rintro e w1 ⟨rfl, k1⟩)
      | (go_at_call 12; refine (HB.out _ k1).mono ?_; rintro e w' ⟨rfl, rfl⟩)
      | (go_at_call 13; refine (HC.out _ k1).mono ?_; rintro e w2 ⟨rfl, k2⟩; have j2 := k1.step k2 (by simp))
      | (go_at_call 14; refine (HD.out _ j2).mono ?_; rintro e w' ⟨rfl, rfl⟩)
      | (go_at_call 10; refine (live_any _).mono ?_; rintro e w3 ⟨rfl, k3⟩; have j3 := j2.step k3 (by simp)))
    go_ret
    exact ⟨rfl, j3.bel⟩
  by_cases t3 : (l.length : Int) < k
  · clear EL EA
    go_enter Try.func3, Try.ntmps3
    go_wp2_with (first
      | (go_at_call 9; refine HL.out.mono ?_; rintro e w' ⟨rfl, rfl⟩)
      | (go_at_call 11; refine (HA.out _ (Kept.refl _ _)).mono ?_; rintro e w1 ⟨rfl, k1⟩)
      | (go_at_call 12; refine (HB.out _ k1).mono ?_; rintro e w' ⟨rfl, rfl⟩)
      | (go_at_call 13; refine (HC.out _ k1).mono ?_; rintro e w2 ⟨rfl, k2⟩; have j2 := k1.step k2 (by simp))
      | (go_at_call 14; refine (HD.out _ j2).mono ?_; rintro e w' ⟨rfl, rfl⟩)
      | (go_at_call 10; refine (live_any _).mono ?_; rintro e w3 ⟨rfl, k3⟩; have j3 := j2.step k3 (by simp)))
    go_ret
    exact ⟨rfl, j3.bel⟩
  obtain ⟨kn, rfl⟩ : ∃ kn : Nat, k = kn := ⟨k.toNat, by omega⟩
  rw [Int.toNat_natCast] at EL EA
  obtain ⟨M, HMM⟩ : ∃ M, Hid (M = l.drop kn) := ⟨_, hid rfl⟩
  obtain ⟨T, HT⟩ : ∃ T, Hid (T = l.take kn) := ⟨_, hid rfl⟩
  obtain ⟨M2, HM2⟩ : ∃ M2, Hid (M2 = M ++ T) := ⟨_, hid rfl⟩
  obtain ⟨M3, HM3⟩ : ∃ M3, Hid (M3 = M2 ++ T) := ⟨_, hid rfl⟩
  rw [← HMM.out, ← HT.out, ← HM2.out, ← HM3.out] at EL EA
  have hml : M.length = l.length - kn := by rw [HMM.out]; simp
  have htl : T.length = kn := by rw [HT.out]; simp; omega
  have hm2 : M2.length ≤ 500 := by rw [HM2.out]; simp; omega
  have hm3 : M3.length ≤ 1000 := by rw [HM3.out, HM2.out]; simp; omega
  have PD := hid (fun wq (q : Kept [] w wq) => HMM.out ▸ prfs_drop (hp.kept q) (k := kn) (by omega) hcap.1)
  have PT := hid (fun wq (q : Kept [] w wq) => HT.out ▸ prfs_take0 (hp.kept q) kn)
  have f1 : (0 : Int) ≤ kn := by omega
  have f2 : (kn : Int) ≤ l.length := by omega
  have f3 : (kn : Int) ≤ cap := by omega
  have hmb : M.length ≤ 20 ∧ T.length ≤ 20 ∧ M2.length ≤ 1000 := by omega
  have hml := hid hml.symm
  have htl := hid htl.symm
  go_enter Try.func3, Try.ntmps3
  go_wp2_with (first
    | (go_at_call 9; refine HL.out.mono ?_; rintro e w' ⟨rfl, rfl⟩)
    | (go_at_call 11; refine (HA.out _ (Kept.refl _ _)).mono ?_; rintro e w1 ⟨rfl, k1⟩)
    | (go_at_call 12; refine (HB.out _ k1).mono ?_; rintro e w' ⟨rfl, rfl⟩)
    | (go_at_call 13; refine (HC.out _ k1).mono ?_; rintro e w2 ⟨rfl, k2⟩; have j2 := k1.step k2 (by simp))
    | (go_at_call 14; refine (HD.out _ j2).mono ?_; rintro e w' ⟨rfl, rfl⟩)
    | (go_at_call 10; refine (live_any _).mono ?_; rintro e w3 ⟨rfl, k3⟩; have j3 := j2.step k3 (by simp)))
  go_wp2_with fail
  go_region_held3 (fun _ => True) (first | exact trivial) (first
    | (refine step_app HM3.out o6 (PT.out _ (j3.step o6.kept (by simp))) (by omega) rfl _ _ rfl rfl (by rfl) htl.out ?_; intro a7 c7 w7 o7)
    | (refine step_app HM2.out o5 (PT.out _ (j3.step o5.kept (by simp))) (by omega) rfl _ _ rfl rfl (by rfl) htl.out ?_; intro a6 c6 w6 o6)
    | (refine step_app (n := M) (l := []) (m := M) rfl ((Own.made w3).later (Kept.refl [] _).drew) (PD.out _ (j3.alloc _).drew) (by simp; omega) rfl _ _ rfl rfl (by rfl) hml.out ?_; intro a5 c5 w5 o5))
  have j7 := j3.step o7.kept (by simp)
  have hs7 := o7.seq
  have HA2 := hid (fun wq (q : Kept [] w7 wq) => level_any (cap := c7) (hs7.kept q))
  have HC2 := hid (fun wq (q : Kept [] w7 wq) => auth_any (cap := c7) (hs7.kept q))
  rw [EL.out] at HA2
  rw [EA.out] at HC2
  go_wp2_with (first
    | (go_at_call 11; refine (HA2.out _ (Kept.refl _ _)).mono ?_; rintro e w8 ⟨rfl, k8⟩; have j8 := j7.step k8 (by simp))
    | (go_at_call 13; refine (HC.out _ j9).mono ?_; rintro e w10 ⟨rfl, k10⟩; have j10 := j9.step k10 (by simp))
    | (go_at_call 13; refine (HC2.out _ k8).mono ?_; rintro e w9 ⟨rfl, k9⟩; have j9 := j8.step k9 (by simp)))
  all_goals (go_ret; exact ⟨rfl, j10.bel⟩)
end Go.Proofs.Ytmipnhdfhgekkaa

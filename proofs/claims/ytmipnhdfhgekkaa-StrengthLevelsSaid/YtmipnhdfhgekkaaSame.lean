/- The reference's Needed; Same; proof; many; clock.Add. -/
import Derived.Test.YtmipnhdfhgekkaaNeed
import Derived.Laws.StructEq
namespace Go.Proofs.Ytmipnhdfhgekkaa
open Go.RowKit

set_option maxHeartbeats 1000000 in
set_option maxRecDepth 100000 in
theorem rneeded_any {w : World} {a : Option Addr} {cap : Nat} {l : List Prf} (h : PrfsAt w a l) (hlen : l.length ≤ 1000) (level age now : Int) :
    Calls Try.prog 21 #[.slice a l.length cap, .int .i64 level, .int .i64 age, .int .i64 now] w fun e w' => ∃ a' cap', e = .returned (.tuple #[.slice a' (needL l level age now).length cap', .int .i64 (needE level)]) ∧ OwnF w w' a' cap' (needL l level age now) := by
  by_cases h1 : level < 0
  · have E := hid (show needL l level age now = [] by simp [needL, h1])
    have E2 := hid (show needE level = 27 by simp [needE, h1])
    go_enter Try.func21, Try.ntmps21
    go_wp2_with fail
    go_ret2
    rw [E.out, E2.out]
    exact ⟨none, 0, rfl, OwnF.start w⟩
  by_cases h2 : 3 < level
  · have E := hid (show needL l level age now = [] by simp [needL, h2])
    have E2 := hid (show needE level = 27 by simp [needE, h2])
    go_enter Try.func21, Try.ntmps21
    go_wp2_with fail
    go_ret2
    rw [E.out, E2.out]
    exact ⟨none, 0, rfl, OwnF.start w⟩
  have E2 := hid (show needE level = 0 by simp [needE, h1, h2])
  have HM := hid (rmeets_any (cap := cap) h hlen level age now)
  cases hm : meetsB l level age now
  · have E := hid (show needL l level age now = needTo (freshL l now age) (level - cntL (freshL l now age)) 3 by simp [needL, h1, h2, hm])
    rw [hm] at HM
    clear hm
    obtain ⟨i0, hi, hz0, hz1, hz2⟩ := info_parts infoFac
    obtain ⟨cb1, cb2⟩ := cntL_bd (freshL l now age)
    go_enter Try.func21, Try.ntmps21
    go_wp2_with (first
      | (go_at_call 19; refine HM.out.mono ?_; rintro e w1 ⟨rfl, hk1⟩)
      | (go_at_call 17; refine (rfresh_any (h.kept hk1) now age hlen).mono ?_; rintro e w2 ⟨a2, cap2, rfl, ho2⟩; have hs2 := ho2.seq)
      | (go_at_call 28; refine (rordinary_any hs2).mono ?_; rintro e w3 ⟨rfl, rfl⟩))
    generalize freshL l now age = fl at *
    have hkw3 : Kept [] w w2 := hk1.step ho2.kept (by simp)
    go_loopw [12, 13] (fun v i wr => ∃ (k : Nat) (a' : Option Addr) (cap' : Nat), k ≤ 3 ∧ i = .int .i64 (k + 1) ∧ v = .slice a' (needTo fl (level - cntL fl) k).length cap' ∧ OwnF w2 wr a' cap' (needTo fl (level - cntL fl) k)) (fun _ i _ => 4 - (intOf i).toNat)
    case atStart => exact ⟨0, none, 0, by omega, rfl, rfl, OwnF.start w2⟩
    case round =>
      obtain ⟨k, a', cap', hk, rfl, rfl, ho⟩ := hrel
      have hk3w := ho.kept
      by_cases hlt : k < 3
      · have hnl := needTo_le fl (level - cntL fl) k
        have hsw := hs2.kept hk3w
        have HH := hid (rhas_any (f := (k : Int) + 1) (cap := cap2) hsw)
        cases hp : hasL fl ((k : Int) + 1)
        · rw [hp] at HH
          by_cases hroom : ((needTo fl (level - cntL fl) k).length : Int) < level - cntL fl
          · have EN := hid (show needTo fl (level - cntL fl) (k + 1) = needTo fl (level - cntL fl) k ++ [(k : Int) + 1] by rw [needTo, if_pos ⟨hp, hroom⟩])
            clear hp
            go_wp2_with (first
              | (go_at_call 29; refine HH.out.mono ?_; rintro e w4 ⟨rfl, rfl⟩)
              | (at_builtin; refine wpList_append_lies _ rfl _ _ _ rfl 0 34 i0 _ 1 8 Try.underlying30 hi hz0 hz1 hz2 rfl (by omega) _ _ _ rfl (ho.row.alloc _) ⟨wr.heap.size, 0, none⟩ 1 1 [.int .i64 ((k : Int) + 1)] rfl rfl (cell_one_new _ _ _) (int_one _) (by omega) (by unfold maxLen; omega) (by omega) (Nat.zero_le _) (wr.heap.size + 1) (by simp) ?_; intro g2 cap3 w6 hown hgrow hat hlt2))
            go_roundw
            case rel =>
              refine ⟨k + 1, some ⟨g2, 0, none⟩, cap3, by omega, by go_num, by rw [EN.out]; simp, ?_⟩
              rw [EN.out]
              exact ho.push ((Kept.refl [] wr).alloc _) hown hgrow (hat.imp id (fun e => by rw [e]; simp))
            case measure => simp [intOf]; omega
          · have EN := hid (show needTo fl (level - cntL fl) (k + 1) = needTo fl (level - cntL fl) k by rw [needTo, if_neg (fun h => hroom h.2)])
            clear hp
            go_wp2_with (go_at_call 29; refine HH.out.mono ?_; rintro e w4 ⟨rfl, rfl⟩)
            go_roundw
            case rel => exact ⟨k + 1, a', cap', by omega, by go_num, by rw [EN.out], by rw [EN.out]; exact ho⟩
            case measure => simp [intOf]; omega
        · rw [hp] at HH
          have EN := hid (show needTo fl (level - cntL fl) (k + 1) = needTo fl (level - cntL fl) k by rw [needTo, if_neg (fun h => by simp [hp] at h)])
          clear hp
          go_wp2_with (go_at_call 29; refine HH.out.mono ?_; rintro e w4 ⟨rfl, rfl⟩)
          go_roundw
          case rel => exact ⟨k + 1, a', cap', by omega, by go_num, by rw [EN.out], by rw [EN.out]; exact ho⟩
          case measure => simp [intOf]; omega
      · obtain rfl : k = 3 := by omega
        go_wp2_with fail
        go_ret2
        rw [E.out, E2.out]
        exact ⟨a', cap', rfl, ho.rebase hkw3⟩
  · have E := hid (show needL l level age now = [] by simp [needL, hm])
    rw [hm] at HM
    clear hm
    go_enter Try.func21, Try.ntmps21
    go_wp2_with (go_at_call 19; refine HM.out.mono ?_; rintro e w1 ⟨rfl, hk1⟩)
    go_ret2
    rw [E.out, E2.out]
    exact ⟨none, 0, rfl, (OwnF.start w).later hk1⟩

/-! ### Same: two lists that are equal -/
set_option maxHeartbeats 1000000 in
theorem same_any {w : World} {a b : Option Addr} {cap cap2 : Nat} {l m : List Prf} (h : PrfsAt w a l) (h2 : PrfsAt w b m) (hlm : l = m) :
    Calls Try.prog 15 #[.slice a l.length cap, .slice b m.length cap2] w fun e w' => e = .returned (.bool true) ∧ ∃ n, w' = w.drewN n := by
  subst hlm
  have hf := h.few
  unfold maxLen at hf
  go_enter Try.func15, Try.ntmps15
  go_wp2_with fail
  go_loopw [5] (fun i wr => ∃ k n : Nat, k ≤ l.length ∧ i = .int .i64 k ∧ wr = w.drewN n) (fun i _ => l.length - (intOf i).toNat)
  case atStart => exact ⟨0, 0, Nat.zero_le _, rfl, rfl⟩
  case round =>
    obtain ⟨k, n, hk, rfl, rfl⟩ := hrel
    by_cases hlt : k < l.length
    · obtain ⟨b1, off, rfl, hb, hc0, hc1⟩ := h.at hlt
      obtain ⟨b2, off2, rfl, hb2, hd0, hd1⟩ := h2.at hlt
      have hb1 : (0 : Int) ≤ k := by omega
      have hb2 : (k : Int) < l.length := by omega
      have q0 : (l[k].1 == l[k].1) = true := beq_self_eq_true _
      have q1 : (l[k].2 == l[k].2) = true := beq_self_eq_true _
      go_wp2_with (go_quiet (fail))
      go_roundw
      case rel => exact ⟨k + 1, _, by omega, by go_num, rfl⟩
      case measure => simp [intOf]; omega
    · go_wp2_with fail
      go_ret
      exact ⟨rfl, n, rfl⟩

set_option maxHeartbeats 400000 in
theorem proof_any (f t : Int) (w : World) :
    Calls Try.prog 25 #[.int .i64 f, .int .i64 t] w fun e w' => e = .returned (prfV (f, t)) ∧ Kept [] w w' := by
  go_enter Try.func25, Try.ntmps25
  go_wp2_with fail
  exact bodyPost_ret (v := prfV (f, t)) (by simp [results, Try.results25, go_sem]) rfl ⟨rfl, (Kept.refl [] w).alloc _⟩
theorem many_any {a : Option Addr} {cap n : Nat} (w : World) :
    Calls Try.prog 9 #[.slice a n cap] w fun e w' => e = .returned (.bool (decide (20 < n))) ∧ w = w' := by
  go_enter Try.func9, Try.ntmps9
  go_wp2_with fail
  go_ret
  exact ⟨ret_bool (by simp; omega), rfl⟩
theorem cadd_any (t d : Int) (w : World) :
    Calls Try.prog 24 #[.int .i64 t, .int .i64 d] w fun e w' => e = .returned (.int .i64 (lim (lim t + lim d))) ∧ w = w' := by
  obtain ⟨n1, n2⟩ := lim_bd t
  obtain ⟨g1, g2⟩ := lim_bd d
  go_enter Try.func24, Try.ntmps24
  go_wp2_with (go_at_call 39; refine (climited_any _ _).mono ?_; rintro e w' ⟨rfl, rfl⟩)
  go_ret
  exact ⟨rfl, rfl⟩
end Go.Proofs.Ytmipnhdfhgekkaa

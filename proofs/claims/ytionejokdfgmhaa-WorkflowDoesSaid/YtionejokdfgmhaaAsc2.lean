/- Ascending of the reference: the walk. -/
import Derived.Test.YtionejokdfgmhaaAsc
namespace Go.Proofs.Ytionejokdfgmhaa
open Go.RowKit Go.Maps

set_option maxHeartbeats 8000000 in
set_option maxRecDepth 100000 in
theorem asc_any {w : World} {a : Option Addr} {cap : Nat} {l : List Str} (h : StrsAt w a l) (hl : l.length ≤ 256) (hd : l.Nodup) :
    Calls Try.prog 53 #[.slice a l.length cap] w fun e w' => Gives w w' e (sortS l) := by
  go_enter Try.func53, Try.ntmps53
  go_wp2_with fail
  go_loopw [3, 4] (fun v i wr => ∃ (k : Nat) (R : List Str) (a1 : Option Addr) (c1 : Nat), k ≤ l.length ∧ i = .int .i64 k ∧ v = .slice a1 R.length c1 ∧ Srt R ∧ SameIn R l k ∧ R.length ≤ k ∧ OwnL 9 1 encS w wr a1 c1 R) (fun _ i _ => l.length - (intOf i).toNat)
  case atStart => exact ⟨0, [], none, 0, Nat.zero_le _, rfl, rfl, List.Pairwise.nil, SameIn.start l, Nat.le_refl _, OwnL.start w⟩
  case round =>
    obtain ⟨k, R, a1, c1, hk, rfl, rfl, hs, hin, hrl, ho⟩ := hrel
    have hkb : k ≤ 256 := by omega
    by_cases hlt : k < l.length
    · obtain ⟨b, off, e, hb, hc⟩ := StrsAt.get (h.keptN ho.kept) hlt
      have hb1 : (0 : Int) ≤ k := by omega
      have hb2 : (k : Int) < l.length := by omega
      have HS := hid hs
      have HIN := hid hin
      have HO := hid ho
      have HLT := hid hlt
      have HC := hid (fun wq (kq : Kept [] wr wq) => (kq.cell (World.block_lt_of_cell? wr _ hc) (by simp)).trans hc)
      have HOL := hid (fun wq (kq : Kept [] wr wq) => ho.later kq)
      clear hs hin ho
      go_wp2_with fail
      obtain ⟨wo, rfl⟩ : ∃ wo, wo = wr := ⟨_, rfl⟩
      go_loopw [5] (fun j wr2 => ∃ i : Nat, i ≤ R.length ∧ j = .int .i64 i ∧ NoneTo (notLt l[k]) R i ∧ Kept [] wo wr2) (fun j _ => R.length - (intOf j).toNat)
      case atStart => exact ⟨0, Nat.zero_le _, rfl, NoneTo.zero _ _, Kept.refl _ _⟩
      case round =>
        obtain ⟨i, hi, rfl, hn, hkw⟩ := hrel
        have hib : i ≤ 256 := by omega
        have hcl := HC.out _ hkw
        by_cases hi2 : i < R.length
        · obtain ⟨b1, off1, e1, hbb, hcr⟩ := StrsAt.get ((HOL.out _ hkw).seq encSOk) hi2
          have hj1 : (0 : Int) ≤ i := by omega
          have hj2 : (i : Int) < R.length := by omega
          have HN := hid (fun hp => hn.next hi2 hp)
          have HN0 := hid hn
          have HSK := hid (fun (e : R[i] = l[k]) => HIN.out.skip HLT.out (List.mem_of_getElem? (i := i) (by rw [List.getElem?_eq_getElem hi2]; exact congrArg some e)))
          have HINS := hid (fun (e1 : ¬ R[i] < l[k]) (e2 : R[i] ≠ l[k]) => HS.out.insert hi hn (fun _ => asc_lt e1 e2))
          have HIN2 := hid (HIN.out.insert HLT.out i)
          have HKW := hid hkw
          have hcap := HO.out.cap
          have hcc : (R.length : Int) ≤ c1 := by omega
          have hcc2 : (i : Int) ≤ c1 := by omega
          have hcc3 : (i : Int) ≤ R.length := by omega
          have HT := hid (fun wq (kq : Kept [] wo wq) => ((HOL.out wq kq).seq encSOk).take0 i)
          obtain ⟨N1, HN1⟩ : ∃ N, Hid (N = [] ++ R.take i) := ⟨_, hid rfl⟩
          obtain ⟨N2, HN2⟩ : ∃ N, Hid (N = N1 ++ [l[k]]) := ⟨_, hid rfl⟩
          obtain ⟨N3, HN3⟩ : ∃ N, Hid (N = N2 ++ R.drop i) := ⟨_, hid rfl⟩
          have HLT2 := hid (show i = (R.take i).length by simp; omega)
          have HLD := hid (show R.length - i = (R.drop i).length by simp)
          have HD2 := hid (fun wq (kq : Kept [] wo wq) => ((HOL.out wq kq).seq encSOk).drop (k := i) (by omega) hcap.1)
          rw [if_neg (by omega), e1, Option.map_some, add_none, Nat.mul_one] at HD2
          clear hn hkw hcap
          generalize R[i] = y at *
          generalize l[k] = x at *
          unfold sV at hcl hcr
          subst e
          subst e1
          by_cases hp : y < x
          · have hbl : Op.bytesLess y x = true := by rw [bytesLess_eq]; simpa using hp
            go_wp2_with fail
            go_quiet (fail)
            go_wp2_with fail
            go_roundw
            case rel => exact ⟨i + 1, by omega, by go_num, HN.out (by unfold notLt; simp [hp]), HKW.out.drewN _⟩
            case measure => simp [intOf]; omega
          · have hbl : Op.bytesLess y x = false := by rw [bytesLess_eq]; simpa using hp
            by_cases he : y = x
            · have hbe : (y == x) = true := by rw [he]; exact beq_self_eq_true _
              have HE := hid he
              clear he
              go_wp2_with fail
              go_quiet (fail)
              go_wp2_with fail
              go_quiet (fail)
              go_wp2_with fail
              go_roundw
              case rel => exact ⟨k + 1, R, _, c1, by have := HLT.out; omega, by go_num, rfl, HS.out, HSK.out HE.out, by omega, HOL.out _ (HKW.out.drewN _)⟩
              case measure => simp [intOf]; omega
            · have HNE := hid he
              have hbe : (y == x) = false := by rw [beq_eq_false_iff_ne]; exact he
              have HP := hid hp
              clear he hp
              go_wp2_with fail
              go_quiet (fail)
              go_wp2_with fail
              go_quiet (fail)
              go_wp2_with (first
                | (at_builtin; refine wp_appL encSOk Try.underlying30 HN3.out o6 (HD2.out _ ((HKW.out.drewN _).step o6.kept (by simp))) (by rw [HN2.out, HN1.out]; simp; omega) rfl _ _ rfl rfl rfl rfl HLD.out ?_; intro a7 c7 w7 o7 k7 f7)
                | (at_builtin; refine wp_appL encSOk Try.underlying30 HN2.out (o5.later ((Kept.refl [] _).alloc _)) (box_str _ ⟨x.toArray⟩ _) (by rw [HN1.out]; simp; omega) rfl _ _ rfl rfl rfl rfl rfl ?_; intro a6 c6 w6 o6 k6 f6)
                | (at_builtin; refine wp_appL encSOk Try.underlying30 HN1.out (OwnL.made _) (HT.out _ ((HKW.out.drewN _).alloc _)) (by simp; omega) rfl _ _ rfl rfl rfl rfl HLT2.out ?_; intro a5 c5 w5 o5 k5 f5; have hc5 := HC.out _ ((HKW.out.drewN _).step o5.kept (by simp)); unfold sV at hc5))
              go_roundw
              case rel => exact ⟨k + 1, N3, a7, c7, by have := HLT.out; omega, by go_num, rfl, by rw [HN3.out, HN2.out, HN1.out]; exact HINS.out HP.out HNE.out, by rw [HN3.out, HN2.out, HN1.out]; exact HIN2.out, by rw [HN3.out, HN2.out, HN1.out]; simp; omega, o7.rebase (HO.out.kept.step (HKW.out.drewN _) (by simp))⟩
              case measure => simp [intOf]; omega
        · have hie : i = R.length := by omega
          have HKW := hid hkw
          have HINS2 := hid (HS.out.insert hi hn (fun hlt => absurd hlt hi2))
          have HIN2 := hid (HIN.out.insert HLT.out i)
          have hcap := HO.out.cap
          have hcc : (R.length : Int) ≤ c1 := by omega
          have hcc2 : (i : Int) ≤ c1 := by omega
          have hcc3 : (i : Int) ≤ R.length := by omega
          have HT := hid (fun wq (kq : Kept [] wo wq) => ((HOL.out wq kq).seq encSOk).take0 i)
          obtain ⟨N1, HN1⟩ : ∃ N, Hid (N = [] ++ R.take i) := ⟨_, hid rfl⟩
          obtain ⟨N2, HN2⟩ : ∃ N, Hid (N = N1 ++ [l[k]]) := ⟨_, hid rfl⟩
          obtain ⟨N3, HN3⟩ : ∃ N, Hid (N = N2 ++ R.drop i) := ⟨_, hid rfl⟩
          have HLT2 := hid (show i = (R.take i).length by simp; omega)
          have HLD := hid (show R.length - i = (R.drop i).length by simp)
          have HD2 := hid (fun wq (_ : Kept [] wo wq) (a' : Option Addr) => (show ListAt 1 encS wq a' (R.drop i) by rw [List.drop_eq_nil_of_le (by omega)]; exact list_nil _ _))
          have hj1 : (0 : Int) ≤ i := by omega
          have hj2 : ¬ (i : Int) < R.length := by omega
          have HIE := hid hie
          clear hn hkw hcap hie
          generalize l[k] = x at *
          unfold sV at hcl
          subst e
          go_wp2_with fail
          go_quiet (fail)
          go_wp2_with fail
          go_quiet (fail)
          go_wp2_with (first
            | (at_builtin; refine wp_appL encSOk Try.underlying30 HN3.out o6 (HD2.out _ ((HKW.out.drewN _).step o6.kept (by simp)) _) (by rw [HN2.out, HN1.out]; simp; omega) rfl _ _ rfl rfl rfl rfl HLD.out ?_; intro a7 c7 w7 o7 k7 f7)
            | (at_builtin; refine wp_appL encSOk Try.underlying30 HN2.out (o5.later ((Kept.refl [] _).alloc _)) (box_str _ ⟨x.toArray⟩ _) (by rw [HN1.out]; simp; omega) rfl _ _ rfl rfl rfl rfl rfl ?_; intro a6 c6 w6 o6 k6 f6)
            | (at_builtin; refine wp_appL encSOk Try.underlying30 HN1.out (OwnL.made _) (HT.out _ ((HKW.out.drewN _).alloc _)) (by simp; omega) rfl _ _ rfl rfl rfl rfl HLT2.out ?_; intro a5 c5 w5 o5 k5 f5; have hc5 := HC.out _ ((HKW.out.drewN _).step o5.kept (by simp)); unfold sV at hc5))
          go_roundw
          case rel => exact ⟨k + 1, N3, a7, c7, by have := HLT.out; omega, by go_num, rfl, by rw [HN3.out, HN2.out, HN1.out]; exact HINS2.out, by rw [HN3.out, HN2.out, HN1.out]; exact HIN2.out, by rw [HN3.out, HN2.out, HN1.out]; simp; omega, o7.rebase (HO.out.kept.step (HKW.out.drewN _) (by simp))⟩
          case measure => simp [intOf]; omega
    · go_wp2_with fail
      go_ret
      have hk2 : k = l.length := by omega
      subst hk2
      rw [← asc_done hs hin hd]
      exact ⟨a1, c1, rfl, ho.seq encSOk, ho.new, ho.kept⟩
end Go.Proofs.Ytionejokdfgmhaa

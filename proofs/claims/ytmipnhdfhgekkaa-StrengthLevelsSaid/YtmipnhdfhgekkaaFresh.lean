/- The reference's AuthTime; Fresh, Meets, of both. -/
import Derived.Test.YtmipnhdfhgekkaaAuth
namespace Go.Proofs.Ytmipnhdfhgekkaa
open Go.RowKit

theorem countsB_iff (none : Bool) (f : Int) : countsB none f = ((decide (1 ≤ f) && decide (f ≤ 3)) || (f == 4 && none)) := by
  unfold countsB
  rw [Bool.eq_iff_iff]
  simp
  constructor
  · rintro (h | ⟨h1, h2⟩)
    · left; omega
    · right; exact ⟨h2, h1⟩
  · rintro (h | ⟨h1, h2⟩)
    · left; omega
    · right; exact ⟨h2, h1⟩

set_option maxHeartbeats 1000000 in
set_option maxRecDepth 100000 in
theorem rauth_any {w : World} {a : Option Addr} {cap : Nat} {l : List Prf} (h : PrfsAt w a l) :
    Calls Try.prog 14 #[.slice a l.length cap] w fun e w' => e = .returned (.int .i64 (authL l)) ∧ w = w' := by
  have hf := h.few
  unfold maxLen at hf
  go_enter Try.func14, Try.ntmps14
  go_wp2_with fail
  go_loop [3, 4, 5] (fun b n i => ∃ (k : Nat) (best : Int) (any : Bool), k ≤ l.length ∧ i = .int .i64 k ∧ b = .int .i64 best ∧ n = .bool any ∧ authTo l k = (best, any)) (fun _ _ i => l.length - (intOf i).toNat)
  case atStart => exact ⟨0, 0, false, Nat.zero_le _, rfl, rfl, rfl, rfl⟩
  case round =>
    obtain ⟨k, best, any, hk, rfl, rfl, rfl, hs⟩ := hrel
    have HS := hid hs
    clear hs
    by_cases hlt : k < l.length
    · obtain ⟨b, off, rfl, hb, hc0, hc1⟩ := h.at hlt
      have hb1 : (0 : Int) ≤ k := by omega
      have hb2 : (k : Int) < l.length := by omega
      have HI := hid (countsB_iff (cntL l == 0) l[k].1)
      have HN := hid (authTo_snoc l k hlt)
      have ho := hid (rordinary_any (cap := cap) h)
      generalize l[k] = p at *
      obtain ⟨f, t⟩ := p
      dsimp only at *
      by_cases h1 : (1 ≤ f ∧ f ≤ 3) ∨ (f = 4 ∧ (cntL l == 0) = true)
      · have hcnt := hid (show countsB (cntL l == 0) f = true by rw [HI.out]; rcases h1 with ⟨h1, h2⟩ | ⟨h1, h2⟩ <;> simp [h1, h2])
        have hpart : (1 ≤ f ∧ f ≤ 3) ∨ (f = 4 ∧ Hid ((cntL l == 0) = true)) := by
          rcases h1 with h1 | ⟨h1, h2⟩
          · exact .inl h1
          · exact .inr ⟨h1, h2⟩
        clear h1
        rcases hpart with ⟨h1, h2⟩ | ⟨rfl, hz⟩
        · cases any
          · have E := hid (show authStep (cntL l == 0) (best, false) (f, t) = (t, true) by simp [authStep, hcnt.out])
            go_wp2_with fail
            go_round
            case rel => exact ⟨k + 1, _, true, by omega, by go_num, rfl, rfl, by rw [HN.out, HS.out, E.out]⟩
            case measure => simp [intOf]; omega
          · by_cases hlt2 : best < t
            · have E := hid (show authStep (cntL l == 0) (best, true) (f, t) = (t, true) by simp [authStep, hcnt.out, hlt2])
              go_wp2_with fail
              go_round
              case rel => exact ⟨k + 1, _, true, by omega, by go_num, rfl, rfl, by rw [HN.out, HS.out, E.out]⟩
              case measure => simp [intOf]; omega
            · have E := hid (show authStep (cntL l == 0) (best, true) (f, t) = (best, true) by simp [authStep, hcnt.out, hlt2])
              go_wp2_with fail
              go_round
              case rel => exact ⟨k + 1, _, true, by omega, by go_num, rfl, rfl, by rw [HN.out, HS.out, E.out]⟩
              case measure => simp [intOf]; omega
        · have hz4 : ((4 : Int) == 4) = true := rfl
          have hz0 : cntL l = 0 := by simpa using hz.out
          have ho2 := hid (show Calls Try.prog 28 #[.slice (some ⟨b, off, none⟩) l.length cap] w fun e w' => e = .returned (.int .i64 0) ∧ w = w' by have := ho.out; rw [hz0] at this; exact this)
          clear hz0
          cases any
          · have E := hid (show authStep (cntL l == 0) (best, false) (4, t) = (t, true) by simp [authStep, hcnt.out])
            go_wp2_with (go_at_call 28; refine ho2.out.mono ?_; rintro e w' ⟨rfl, rfl⟩)
            go_round
            case rel => exact ⟨k + 1, _, true, by omega, by go_num, rfl, rfl, by rw [HN.out, HS.out, E.out]⟩
            case measure => simp [intOf]; omega
          · by_cases hlt2 : best < t
            · have E := hid (show authStep (cntL l == 0) (best, true) (4, t) = (t, true) by simp [authStep, hcnt.out, hlt2])
              go_wp2_with (go_at_call 28; refine ho2.out.mono ?_; rintro e w' ⟨rfl, rfl⟩)
              go_round
              case rel => exact ⟨k + 1, _, true, by omega, by go_num, rfl, rfl, by rw [HN.out, HS.out, E.out]⟩
              case measure => simp [intOf]; omega
            · have E := hid (show authStep (cntL l == 0) (best, true) (4, t) = (best, true) by simp [authStep, hcnt.out, hlt2])
              go_wp2_with (go_at_call 28; refine ho2.out.mono ?_; rintro e w' ⟨rfl, rfl⟩)
              go_round
              case rel => exact ⟨k + 1, _, true, by omega, by go_num, rfl, rfl, by rw [HN.out, HS.out, E.out]⟩
              case measure => simp [intOf]; omega
      · have hcnt := hid (show countsB (cntL l == 0) f = false by
          rw [HI.out, Bool.eq_false_iff]
          intro hx
          simp at hx
          apply h1
          rcases hx with hx | hx
          · exact .inl hx
          · exact .inr ⟨hx.1, by simp [hx.2]⟩)
        have E := hid (show authStep (cntL l == 0) (best, any) (f, t) = (best, any) by simp [authStep, hcnt.out])
        by_cases h4 : f = 4
        · subst h4
          have hz : (cntL l == 0) = false := by
            cases hx : (cntL l == 0)
            · rfl
            · exact absurd (.inr ⟨rfl, hx⟩) h1
          clear h1
          go_wp2_with (go_at_call 28; refine ho.out.mono ?_; rintro e w' ⟨rfl, rfl⟩)
          go_round
          case rel => exact ⟨k + 1, best, any, by omega, by go_num, rfl, rfl, by rw [HN.out, HS.out, E.out]⟩
          case measure => simp [intOf]; omega
        · have h4' : (f == 4) = false := by simpa using h4
          by_cases hg : 1 ≤ f
          · have hg2 : ¬ f ≤ 3 := fun hx => h1 (.inl ⟨hg, hx⟩)
            clear h1 h4
            go_wp2_with fail
            go_round
            case rel => exact ⟨k + 1, best, any, by omega, by go_num, rfl, rfl, by rw [HN.out, HS.out, E.out]⟩
            case measure => simp [intOf]; omega
          · clear h1 h4
            go_wp2_with fail
            go_round
            case rel => exact ⟨k + 1, best, any, by omega, by go_num, rfl, rfl, by rw [HN.out, HS.out, E.out]⟩
            case measure => simp [intOf]; omega
    · obtain rfl : k = l.length := by omega
      have E := hid (show authL l = best by unfold authL; rw [HS.out])
      go_wp2_with fail
      go_ret
      exact ⟨ret_int E.out.symm, rfl⟩
end Go.Proofs.Ytmipnhdfhgekkaa

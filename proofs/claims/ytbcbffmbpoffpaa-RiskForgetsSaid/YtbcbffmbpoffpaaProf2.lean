/- Observe, Known, Drop, Signals of the program. -/
import Derived.Test.YtbcbffmbpoffpaaProf
import Derived.Deep.RegionHeld3
namespace Go.Proofs.Ytbcbffmbpoffpaa
open Go.RowKit Go.Maps

def obsC (U : Users) (u d p : Str) : Int := if wordB u && wordB d && wordB p then (if (alook U u).isSome || decide (U.length < 256) then 0 else 3) else 5
def newP (U : Users) (u d p : Str) (now : Int) : Prof := ⟨movedL (prof U u).dev d, movedL (prof U u).pl p, lim now⟩
def obsU (U : Users) (u d p : Str) (now : Int) : Users := if obsC U u d p = 0 then aput U u (newP U u d p now) else U
theorem newP_fits (U : Users) (u d p : Str) (now : Int) : Fits (newP U u d p now) := by
  have h1 := movedL_len (prof U u).dev d
  have h2 := movedL_len (prof U u).pl p
  have h3 := lim_bd now
  exact ⟨h1.1, h1.2, h2.1, h2.2, h3.1, h3.2⟩
theorem prof_fits {U : Users} (h : AllFit U) (k : Str) : (prof U k).dev.length ≤ 16 ∧ (prof U k).pl.length ≤ 16 := by
  unfold prof
  cases hu : alook U k with
  | none => simp [prof0]
  | some p => exact ⟨(h k p hu).2.1, (h k p hu).2.2.2.1⟩

set_option maxHeartbeats 2000000 in
set_option maxRecDepth 100000 in
theorem observe_any {w : World} {pb mb : Nat} {U : Users} (h : ProfsAt w pb mb U) (u d p : ByteArray) (hu : u.size ≤ maxLen) (hd : d.size ≤ maxLen) (hp : p.size ≤ maxLen) (now : Int) :
    Calls Try.prog 18 #[.pointer (some ⟨pb, 0, none⟩), .string u, .string d, .string p, .int .i64 now] w fun e w' => e = .returned (.int .i64 (obsC U u.data.toList d.data.toList p.data.toList)) ∧ ProfsAt w' pb mb (obsU U u.data.toList d.data.toList p.data.toList now) ∧ Kept [mb] w w' := by
  have c0 := h.c0
  have HU := hid (word_any u w hu)
  have HD := hid (word_any d w hd)
  have HP := hid (word_any p w hp)
  have bad : ¬ (wordB u.data.toList && wordB d.data.toList && wordB p.data.toList) = true → obsC U u.data.toList d.data.toList p.data.toList = 5 := fun hn => by unfold obsC; rw [if_neg hn]
  have HBAD := hid bad
  clear bad
  by_cases hwu : wordB u.data.toList = true
  · rw [hwu] at HU
    by_cases hwd : wordB d.data.toList = true
    · rw [hwd] at HD
      by_cases hwp : wordB p.data.toList = true
      · rw [hwp] at HP
        obtain ⟨v, hv, hl1, hl2⟩ := h.look u hu
        have hln := fun o ty => (h.keptN ((Kept.refl [] w).alloc o)).lenrun ty
        have hpbl := lt_of_heap h.blk
        by_cases hroom : (alook U u.data.toList).isSome = true ∨ U.length < 256
        · have E1 := hid (show obsC U u.data.toList d.data.toList p.data.toList = 0 by unfold obsC; rw [hwu, hwd, hwp]; simp only [Bool.and_self, if_true]; rw [if_pos (by simpa using hroom)])
          have E2 := hid (show obsU U u.data.toList d.data.toList p.data.toList now = aput U u.data.toList (newP U u.data.toList d.data.toList p.data.toList now) by unfold obsU; rw [if_pos E1.out])
          obtain ⟨a1, cc1, a2, cc2, rfl, s1, s2⟩ := hv
          have hf := prof_fits h.fit u.data.toList
          obtain ⟨M1, HM1⟩ : ∃ M, Hid (M = movedL (prof U u.data.toList).dev d.data.toList) := ⟨_, hid rfl⟩
          obtain ⟨M2, HM2⟩ : ∃ M, Hid (M = movedL (prof U u.data.toList).pl p.data.toList) := ⟨_, hid rfl⟩
          have HG1 := hid (fun wq (k : Kept [] w wq) => HM1.out ▸ moved_any (cap := cc1) (s1.keptN k).1 (by omega) d)
          have HG2 := hid (fun wq (k : Kept [] w wq) => HM2.out ▸ moved_any (cap := cc2) (s2.keptN k).1 (by omega) p)
          have HNP := hid (show newP U u.data.toList d.data.toList p.data.toList now = ⟨M1, M2, lim now⟩ by unfold newP; rw [HM1.out, HM2.out])
          have hfit := hid (newP_fits U u.data.toList d.data.toList p.data.toList now)
          have hmbne : pb ≠ mb := by
            obtain ⟨L, hm, _⟩ := h.map
            exact hm.ne h.blk
          have hmbl : mb < w.heap.size := by
            obtain ⟨L, hm, _⟩ := h.map
            exact hm.lt
          have HH := hid h
          have hbx := heap_alloc_new w (.cells #[.slice a1 (prof U u.data.toList).dev.length cc1, .slice a2 (prof U u.data.toList).pl.length cc2, .int .i64 (prof U u.data.toList).at_] 69 (0, 0))
          have HK0 := hid ((Kept.refl [] w).alloc (.cells #[.slice a1 (prof U u.data.toList).dev.length cc1, .slice a2 (prof U u.data.toList).pl.length cc2, .int .i64 (prof U u.data.toList).at_] 69 (0, 0)))
          have HC := hid (fun (T : List Nat) wq (k : Kept T (w.alloc (.cells #[.slice a1 (prof U u.data.toList).dev.length cc1, .slice a2 (prof U u.data.toList).pl.length cc2, .int .i64 (prof U u.data.toList).at_] 69 (0, 0))) wq) (h1 : pb ∉ T) (h2 : w.heap.size ∉ T) =>
            And.intro (show wq.cell? ⟨pb, 0, none⟩ = some (.map (some mb)) by rw [k.cell (by simp; omega) h1, HK0.out.cell hpbl (by simp)]; exact c0)
              (And.intro (show wq.cell? ⟨w.heap.size, 0, none⟩ = some (.slice a1 (prof U u.data.toList).dev.length cc1) by rw [cell_at (k.at hbx h2)]; rfl)
                (show wq.cell? ⟨w.heap.size, 1, none⟩ = some (.slice a2 (prof U u.data.toList).pl.length cc2) by rw [cell_at (k.at hbx h2)]; rfl)))
          clear s1 s2 h hf hbx
          generalize (prof U u.data.toList).dev.length = n1 at *
          generalize (prof U u.data.toList).pl.length = n2 at *
          generalize (prof U u.data.toList).at_ = n3 at *
          have HR := hid hroom
          have HSI := hid (show (alook U u.data.toList).isSome = false → U.length < 256 from fun hf => by
            rcases hroom with h1 | h1
            · rw [hf] at h1; cases h1
            · exact h1)
          clear hroom
          obtain ⟨Bs, HBs⟩ : ∃ Bs, Hid (Bs = (alook U u.data.toList).isSome) := ⟨_, hid rfl⟩
          rw [← HBs.out] at hl1 HSI
          have HL2 := hid hl2
          clear hl2
          cases Bs
          all_goals
            have hroom := HSI.out
            clear HSI
            try (have hlt : U.length < 256 := hroom rfl)
            clear hroom
            go_enter Try.func18, Try.ntmps18
            go_wp2_with (go_at_call 36; refine (ready_any c0).mono ?_; rintro e w' ⟨rfl, rfl⟩)
            refine HU.out.mono ?_
            rintro e w' ⟨rfl, rfl⟩
            go_wp2_with fail
            refine HD.out.mono ?_
            rintro e w' ⟨rfl, rfl⟩
            go_wp2_with fail
            refine HP.out.mono ?_
            rintro e w' ⟨rfl, rfl⟩
            go_wp2_with fail
            obtain ⟨w0, HW0⟩ : ∃ w0, Hid (w0 = w.alloc (.cells #[.slice a1 n1 cc1, .slice a2 n2 cc2, .int .i64 n3] 69 (0, 0))) := ⟨_, hid rfl⟩
            rw [← HW0.out] at HC HK0 ⊢
            go_region_held3 (fun w' => w'.cell? ⟨pb, 0, none⟩ = some (.map (some mb)) ∧ w'.cell? ⟨w.heap.size, 0, none⟩ = some (.slice a1 n1 cc1) ∧ w'.cell? ⟨w.heap.size, 1, none⟩ = some (.slice a2 n2 cc2))
              (first
                | exact HC.out [mb] _ ((((Kept.refl [] w0).drew).step k4 (by simp)).step k5 (by simp) |>.mono (T := [mb]) (by simp) |>.step k9 (by simp)) (by simpa using hmbne) (by simp; omega)
                | exact HC.out [] _ (((Kept.refl [] w0).drew).step k4 (by simp) |>.step k5 (by simp)) (by simp) (by simp)
                | exact HC.out [] _ (((Kept.refl [] w0).drew).step k4 (by simp)) (by simp) (by simp)
                | exact HC.out [] _ ((Kept.refl [] w0).drew) (by simp) (by simp))
              (first
                | (go_at_call 30; refine (add0_any _ _).mono ?_; rintro e w' ⟨rfl, rfl⟩; have hk5 := HK0.out.drew.step k4 (by simp) |>.step k5 (by simp); obtain ⟨w9, hr9, hm9, k9⟩ := (HH.out.keptN hk5).put u hu (v := .agg #[.slice a4 M1.length c4, .slice a5 M2.length c5, .int .i64 (lim now)]) (p := ⟨M1, M2, lim now⟩) ⟨a4, c4, a5, c5, rfl, s4.keptN k5, s5⟩ (HNP.out ▸ hfit.out) HR.out)
                | (go_at_call 37; refine (HG2.out _ (HK0.out.drew.step k4 (by simp))).mono ?_; rintro e w5 ⟨a5, c5, rfl, s5, k5⟩)
                | (go_at_call 37; refine (HG1.out _ HK0.out.drew).mono ?_; rintro e w4 ⟨a4, c4, rfl, s4, k4⟩))
            go_wp2_with fail
            go_ret
            rw [E1.out, E2.out, HNP.out]
            exact ⟨rfl, hm9, hk5.mono (T := [mb]) (by simp) |>.step k9 (by simp)⟩
        · have E1 := hid (show obsC U u.data.toList d.data.toList p.data.toList = 3 by unfold obsC; rw [hwu, hwd, hwp]; simp only [Bool.and_self, if_true]; rw [if_neg (by simpa using hroom)])
          have E2 := hid (show obsU U u.data.toList d.data.toList p.data.toList now = U by unfold obsU; rw [E1.out]; rfl)
          have hs : (alook U u.data.toList).isSome = false := by
            cases hx : (alook U u.data.toList).isSome with
            | false => rfl
            | true => exact absurd (.inl hx) hroom
          have hlt : ¬ U.length < 256 := fun hx => hroom (.inr hx)
          rw [hs] at hl1
          obtain ⟨a1, cc1, a2, cc2, rfl, s1, s2⟩ := hv
          have hlt2 : (256 : Int) ≤ U.length := by omega
          clear hroom s1 s2 hwu hwd hwp hl2 hs
          go_enter Try.func18, Try.ntmps18
          go_wp2_with (go_at_call 36; refine (ready_any c0).mono ?_; rintro e w' ⟨rfl, rfl⟩)
          refine HU.out.mono ?_
          rintro e w' ⟨rfl, rfl⟩
          go_wp2_with fail
          refine HD.out.mono ?_
          rintro e w' ⟨rfl, rfl⟩
          go_wp2_with fail
          refine HP.out.mono ?_
          rintro e w' ⟨rfl, rfl⟩
          go_wp2_with fail
          go_ret
          rw [E1.out, E2.out]
          exact ⟨rfl, h.keptN ((Kept.refl [] w).alloc _), (Kept.refl [mb] w).alloc _⟩
      · rw [Bool.not_eq_true] at hwp
        rw [hwp] at HP
        have E1 := hid (HBAD.out (by simp [hwp]))
        have E2 := hid (show obsU U u.data.toList d.data.toList p.data.toList now = U by unfold obsU; rw [E1.out]; rfl)
        clear hwu hwd hwp
        go_enter Try.func18, Try.ntmps18
        go_wp2_with (go_at_call 36; refine (ready_any c0).mono ?_; rintro e w' ⟨rfl, rfl⟩)
        refine HU.out.mono ?_
        rintro e w' ⟨rfl, rfl⟩
        go_wp2_with fail
        refine HD.out.mono ?_
        rintro e w' ⟨rfl, rfl⟩
        go_wp2_with fail
        refine HP.out.mono ?_
        rintro e w' ⟨rfl, rfl⟩
        go_wp2_with fail
        go_ret
        rw [E1.out, E2.out]
        exact ⟨rfl, h, Kept.refl _ _⟩
    · rw [Bool.not_eq_true] at hwd
      rw [hwd] at HD
      have E1 := hid (HBAD.out (by simp [hwd]))
      have E2 := hid (show obsU U u.data.toList d.data.toList p.data.toList now = U by unfold obsU; rw [E1.out]; rfl)
      clear hwu hwd
      go_enter Try.func18, Try.ntmps18
      go_wp2_with (go_at_call 36; refine (ready_any c0).mono ?_; rintro e w' ⟨rfl, rfl⟩)
      refine HU.out.mono ?_
      rintro e w' ⟨rfl, rfl⟩
      go_wp2_with fail
      refine HD.out.mono ?_
      rintro e w' ⟨rfl, rfl⟩
      go_wp2_with fail
      go_ret
      rw [E1.out, E2.out]
      exact ⟨rfl, h, Kept.refl _ _⟩
  · rw [Bool.not_eq_true] at hwu
    rw [hwu] at HU
    have E1 := hid (HBAD.out (by simp [hwu]))
    have E2 := hid (show obsU U u.data.toList d.data.toList p.data.toList now = U by unfold obsU; rw [E1.out]; rfl)
    clear hwu
    go_enter Try.func18, Try.ntmps18
    go_wp2_with (go_at_call 36; refine (ready_any c0).mono ?_; rintro e w' ⟨rfl, rfl⟩)
    refine HU.out.mono ?_
    rintro e w' ⟨rfl, rfl⟩
    go_wp2_with fail
    go_ret
    rw [E1.out, E2.out]
    exact ⟨rfl, h, Kept.refl _ _⟩
end Go.Proofs.Ytbcbffmbpoffpaa

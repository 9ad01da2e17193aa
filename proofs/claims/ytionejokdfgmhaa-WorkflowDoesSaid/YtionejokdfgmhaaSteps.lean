/- checkSteps, Clone of steps. -/
import Derived.Test.YtionejokdfgmhaaProc
namespace Go.Proofs.Ytionejokdfgmhaa
open Go.RowKit Go.Maps

def chk1 (s : Stp) : Int := if wordB s.1 then (if s.2 < 1 ∨ 8 < s.2 then 27 else 0) else 5
def firstE : List Stp → Int
  | [] => 0
  | s :: r => if chk1 s = 0 then firstE r else chk1 s
def chkC (l : List Stp) : Int := if l.length = 0 then 6 else if 8 < l.length then 3 else firstE l
def badS (s : Stp) : Bool := chk1 s != 0
theorem firstE_at {l : List Stp} {k : Nat} (h : NoneTo badS l k) (hk : k < l.length) (hp : badS l[k] = true) : firstE l = chk1 l[k] := by
  induction l generalizing k with
  | nil => simp at hk
  | cons a r ih =>
    cases k with
    | zero =>
      simp only [badS, List.getElem_cons_zero, bne_iff_ne] at hp ⊢
      rw [firstE, if_neg hp]
    | succ k =>
      have h0 := h 0 (by omega) (by simp)
      simp only [badS, List.getElem_cons_zero, bne_eq_false_iff_eq] at h0
      rw [firstE, if_pos h0]
      simp only [List.getElem_cons_succ] at hp ⊢
      exact ih (fun j hj hjl => by have := h (j + 1) (by omega) (by simp; omega); simpa using this) (by simpa using hk) hp
theorem firstE_none {l : List Stp} (h : ∀ x ∈ l, badS x = false) : firstE l = 0 := by
  induction l with
  | nil => rfl
  | cons a r ih =>
    have h0 := h a (by simp)
    simp only [badS, bne_eq_false_iff_eq] at h0
    rw [firstE, if_pos h0]
    exact ih (fun x hx => h x (by simp [hx]))
theorem firstE_zero {l : List Stp} (h : firstE l = 0) : ∀ x ∈ l, wordB x.1 = true ∧ 1 ≤ x.2 ∧ x.2 ≤ 8 := by
  induction l with
  | nil => simp
  | cons a r ih =>
    rw [firstE] at h
    have ha : chk1 a = 0 := by
      by_cases e : chk1 a = 0
      · exact e
      · rw [if_neg e] at h; exact absurd h e
    rw [if_pos ha] at h
    intro x hx
    rcases List.mem_cons.1 hx with rfl | hx
    · unfold chk1 at ha
      split at ha
      · rename_i hw
        split at ha
        · cases ha
        · exact ⟨hw, by omega, by omega⟩
      · cases ha
    · exact ih h x hx
theorem size_str (s : Str) : (⟨s.toArray⟩ : ByteArray).size = s.length := by simp [ByteArray.size]

def ShortT (l : List Stp) : Prop := ∀ s ∈ l, s.1.length ≤ maxLen
set_option maxHeartbeats 1000000 in
theorem check_any {w : World} {a : Option Addr} {cap : Nat} {l : List Stp} (h : StpsAt w a l) (hs : ShortT l) :
    Calls Try.prog 41 #[.slice a l.length cap] w fun e w' => e = .returned (.int .i64 (chkC l)) ∧ Kept [] w w' := by
  have hf := h.few
  unfold maxLen at hf
  by_cases h0 : l.length = 0
  · have E := hid (show chkC l = 6 by unfold chkC; rw [if_pos h0])
    have hb : ((l.length : Int) == 0) = true := by rw [beq_iff_eq]; omega
    rw [E.out]
    have hb0 : l = [] := List.length_eq_zero_iff.1 h0
    subst hb0
    clear h0 hb E
    go_enter Try.func41, Try.ntmps41
    go_wp2_with fail
    go_ret
    exact ⟨rfl, Kept.refl _ _⟩
  · have hb : ((l.length : Int) == 0) = false := by rw [beq_eq_false_iff_ne]; omega
    by_cases h8 : 8 < l.length
    · have E := hid (show chkC l = 3 by unfold chkC; rw [if_neg h0, if_pos h8])
      have h8' : (8 : Int) < l.length := by omega
      clear h0
      rw [E.out]
      go_enter Try.func41, Try.ntmps41
      go_wp2_with fail
      go_ret
      exact ⟨rfl, Kept.refl _ _⟩
    · have E := hid (show chkC l = firstE l by unfold chkC; rw [if_neg h0, if_neg h8])
      rw [E.out]
      have h8' : (l.length : Int) ≤ 8 := by omega
      have HS := hid hs
      clear h0 h8 hs
      go_enter Try.func41, Try.ntmps41
      go_wp2_with fail
      go_loopw [13] (fun i wr => ∃ k : Nat, k ≤ l.length ∧ i = .int .i64 k ∧ NoneTo badS l k ∧ Kept [] w wr) (fun i _ => l.length - (intOf i).toNat)
      case atStart => exact ⟨0, Nat.zero_le _, rfl, NoneTo.zero _ _, Kept.refl _ _⟩
      case round =>
        obtain ⟨k, hk, rfl, hn, hkw⟩ := hrel
        by_cases hlt : k < l.length
        · obtain ⟨b, off, rfl, hb', hc0, hc1⟩ := StpsAt.get (h.keptN hkw) hlt
          have hb1 : (0 : Int) ≤ k := by omega
          have hb2 : (k : Int) < l.length := by omega
          have hx := hid (show l[k].1.length ≤ maxLen from HS.out _ (List.getElem_mem hlt))
          have hN := hid hn
          have hA := hid (fun hp => firstE_at hn hlt hp)
          have hB := hid (fun hp => hn.next hlt hp)
          have HKW := hid hkw
          have hC := hid (show ∀ s, chk1 s = if wordB s.1 then (if s.2 < 1 ∨ 8 < s.2 then 27 else 0) else 5 from fun s => rfl)
          clear hn hkw
          generalize l[k] = s at *
          have HW := hid (word_any ⟨s.1.toArray⟩ (wr.alloc (.cells #[sV s.1, .int .i64 s.2] 44 (0, 0))) (by rw [size_str]; exact hx.out))
          cases hw : wordB s.1
          · have e := hid (show chk1 s = 5 by rw [hC.out, hw]; rfl)
            have HBAD := hid (show badS s = true by unfold badS; rw [e.out]; rfl)
            rw [show wordB (⟨s.1.toArray⟩ : ByteArray).data.toList = false from hw] at HW
            clear hw
            unfold sV at hc0 HW
            go_wp2_with fail
            refine HW.out.mono ?_
            rintro e w' ⟨rfl, rfl⟩
            go_wp2_with fail
            go_ret
            rw [hA.out HBAD.out, e.out]
            exact ⟨rfl, HKW.out.alloc _⟩
          · rw [show wordB (⟨s.1.toArray⟩ : ByteArray).data.toList = true from hw] at HW
            by_cases h27 : s.2 < 1 ∨ 8 < s.2
            · have e := hid (show chk1 s = 27 by rw [hC.out, hw, if_pos rfl, if_pos h27])
              have HBAD := hid (show badS s = true by unfold badS; rw [e.out]; rfl)
              clear hw
              unfold sV at hc0 HW
              by_cases hlow : s.2 < 1
              all_goals
                try (have hhigh : (8 : Int) < s.2 := by omega)
                clear h27
                go_wp2_with fail
                refine HW.out.mono ?_
                rintro e w' ⟨rfl, rfl⟩
                go_wp2_with fail
                go_ret
                rw [hA.out HBAD.out, e.out]
                exact ⟨rfl, HKW.out.alloc _⟩
            · have e := hid (show chk1 s = 0 by rw [hC.out, hw, if_pos rfl, if_neg h27])
              have HBAD := hid (show badS s = false by unfold badS; rw [e.out]; rfl)
              have h1 : (1 : Int) ≤ s.2 := by omega
              have h2 : s.2 ≤ 8 := by omega
              clear hw h27
              unfold sV at hc0 HW
              go_wp2_with fail
              refine HW.out.mono ?_
              rintro e w' ⟨rfl, rfl⟩
              go_wp2_with fail
              go_roundw
              case rel => exact ⟨k + 1, by omega, by go_num, hB.out HBAD.out, HKW.out.alloc _⟩
              case measure => simp [intOf]; omega
        · have hx := hid (firstE_none (hn.all (by omega)))
          go_wp2_with fail
          go_ret
          rw [hx.out]
          exact ⟨rfl, hkw⟩

set_option maxHeartbeats 400000 in
theorem cloneT_any {w : World} {a : Option Addr} {cap : Nat} {l : List Stp} (h : StpsAt w a l) (hlen : l.length ≤ 100000) :
    Calls Try.prog 42 #[.slice a l.length cap] w fun e w' => ∃ a' cap', e = .returned (.slice a' l.length cap') ∧ OwnL 44 2 encT w w' a' cap' l := by
  have hq : ∀ (w : World) (a : Option Addr) (n c : Nat), (binOp .eql 35 (.slice a n c) (.slice none 0 0)).run Try.prog w = .ok (.bool a.isNone) w := fun w a n c => Lib.run_eql_slice_nil w _ _ a n c 0 0 Try.underlying35
  cases a with
  | none =>
    have hl0 : l = [] := by
      rcases h.cells with h0 | ⟨b, off, e, _⟩
      · exact h0
      · cases e
    subst hl0
    go_enter Try.func42, Try.ntmps42
    go_wp2_with fail
    go_ret
    exact ⟨none, 0, rfl, OwnL.start w⟩
  | some ad =>
    have hd := h.keptN ((Kept.refl [] w).alloc (.cells #[] 44 (0, 0)))
    obtain ⟨L, HL⟩ : ∃ L, Hid (L = [] ++ l) := ⟨_, hid rfl⟩
    go_enter Try.func42, Try.ntmps42
    go_wp2_with (at_builtin; refine wp_appL encTOk Try.underlying35 HL.out (OwnL.made w) hd (by simp; omega) rfl _ _ rfl rfl rfl rfl rfl ?_; intro a' cap' w' ho hk hfp)
    go_ret
    have e := HL.out
    rw [List.nil_append] at e
    subst e
    exact ⟨a', cap', rfl, ho⟩
end Go.Proofs.Ytionejokdfgmhaa

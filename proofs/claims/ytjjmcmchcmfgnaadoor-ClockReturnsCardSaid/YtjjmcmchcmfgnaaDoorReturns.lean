/- ClockReturns, walked: it returns true. -/
import Derived.Test.YtjjmcmchcmfgnaaDoorAlive
namespace Go.Proofs.YtjjmcmchcmfgnaaDoor
open Go.RowKit

theorem parsed_form {c : Cal} (k : c.Ok) {T : Int} (h : (c.at : Int) = T) (h2 : T ≤ 1099511627776) : Parsed c.form T 0 := by
  subst h
  exact .ok c (Cal.reads k (by have := Cal.year_lt k (by omega); omega)) k (by omega)
theorem at_lim {n : Nat} (h : n ≤ 1099511627776) : (n : Int) = lim (n : Int) := (lim_id _ (by omega) (by omega)).symm
set_option maxHeartbeats 4000000 in
theorem returns_walk (t : Int) (_ : (Lit.int .i64 t).wf = true) (u : Int) (_ : (Lit.int .i64 u).wf = true) (s : ByteArray) (_ : s.size ≤ maxLen) {w : World} (ht : Tab w) :
    Calls Tryd.prog 8 #[.int .i64 t, .int .i64 u, .string s] w fun e w' => e = .returned (.bool true) ∧ Below w.heap.size w w' := by
  have HA := hid (fun (W : World) (k : Kept [] w W) => alive_any (ht.kept k))
  have HT := hid ht
  clear ht
  have hw : Kept [] w w := Kept.refl _ _
  have HF := hid (fun (x : Int) (W : World) (k : Kept [] w W) => format_any x (HT.out.kept k))
  have bt := lim_bd t
  have bu := lim_bd u
  obtain ⟨T, hT⟩ : ∃ T, Hid (lim t = T) := ⟨_, hid rfl⟩
  obtain ⟨U, hU⟩ : ∃ U, Hid (lim u = U) := ⟨_, hid rfl⟩
  rw [hT.out] at bt
  rw [hU.out] at bu
  have hmm : (T != max 0 (min t 1099511627776)) = false := by
    have : T = max 0 (min t 1099511627776) := by have := hT.out; unfold lim at this; omega
    rw [← this]; simp
  have zF0 : True := trivial
  go_enter Tryd.func8, Tryd.ntmps8
  go_wp2_with (first
    | (go_at_call 27; have _t := zF1; clear _t zF1; refine (HF.out u _ hw).mono ?_; rintro _ w3 ⟨c2, ok2, at2, rfl, h3⟩; replace hw := Kept.step hw h3 (by simp); clear h3)
    | (go_at_call 27; have _t := zF0; clear _t zF0; refine (HF.out t _ hw).mono ?_; rintro _ w3 ⟨c1, ok1, at1, rfl, h3⟩; replace hw := Kept.step hw h3 (by simp); clear h3; have ok1 := hid ok1; have at1 := hid at1; have zF1 : True := trivial))
  have hP1 := hid (fun W => parse_at _ T 0 (parsed_form ok1.out (at1.out.trans hT.out) bt.2) W)
  have hP2 := hid (fun W => parse_at _ U 0 (parsed_form ok2 (at2.trans hU.out) bu.2) W)
  have y1 := Cal.year_lt ok1.out (by have := at1.out; have := lim_bd t; omega)
  have y2 := Cal.year_lt ok2 (by have := lim_bd u; omega)
  have hlt := hid (fun hl => Cal.form_lt ok1.out ok2 (by omega) (by omega) hl)
  have e1 := at1.out.trans hT.out
  have e2 := at2.trans hU.out
  have hless : c1.form.length = c2.form.length → Op.bytesLess c1.form c2.form = decide (T < U) := fun hl => by
    rw [Go.Proofs.bytesLess_eq]
    exact decide_eq_decide.2 ((hlt.out hl).trans (by omega))
  have hless := hid hless
  clear ok1 ok2 at2 y1 y2 hlt e1 e2
  generalize c1.form = A at *
  generalize c2.form = B at *
  by_cases hl : A.length = B.length
  · have hb := hless.out hl
    have hln : (A.length : Int) = B.length := by omega
    clear hless hl
    rcases (show s.size ≤ 40 ∨ 40 < s.size by omega) with hs | hs
    · have hsi : (s.size : Int) ≤ 40 := by omega
      have zP0 : True := trivial
      go_wp2_with (first
        | (go_at_call 25; have _t := zP1; clear _t zP1; refine (hP2.out _).mono ?_; rintro _ w3 ⟨rfl, h3⟩; replace hw := Kept.step hw h3 (by simp); clear h3)
        | (go_at_call 25; have _t := zP0; clear _t zP0; refine (hP1.out _).mono ?_; rintro _ w3 ⟨rfl, h3⟩; replace hw := Kept.step hw h3 (by simp); clear h3; have zP1 : True := trivial)
        | (go_at_call 15; refine (HA.out _ hw).mono ?_; rintro _ w3 ⟨rfl, h3⟩; replace hw := Kept.step hw h3 (by simp); clear h3))
      refine (parse_any s _).mono ?_
      rintro _ w4 ⟨n, k, hp, rfl, h4⟩
      replace hw := Kept.step hw h4 (by simp)
      clear h4
      cases hp with
      | ok c r ok le =>
        have hv := hid (valid_of c.at)
        have hd : decide (c.at ≤ 1099511627776) = true := by simpa using le
        rw [hd] at hv
        have es : (⟨s.data.toList.toArray⟩ : ByteArray) = s := (str_of rfl).symm
        have hf := hid (fun (W : World) (k : Kept [] w W) => format_at c.at c s.data.toList ok (at_lim le) r.form (HT.out.kept k))
        rw [es] at hf
        clear hd es r ok le
        go_wp2_with (first
          | (go_at_call 9; refine (hv.out _ rfl _).mono ?_; rintro _ w3 ⟨rfl, rfl⟩)
          | (go_at_call 27; refine (hf.out _ hw).mono ?_; rintro _ w3 ⟨rfl, h3⟩; replace hw := Kept.step hw h3 (by simp); clear h3)
          | (go_at_call 15; refine (HA.out _ hw).mono ?_; rintro _ w3 ⟨rfl, h3⟩; replace hw := Kept.step hw h3 (by simp); clear h3))
        go_ret
        exact ⟨rfl, hw.toBelow (by simp)⟩
      | range c r no =>
        clear r no
        go_wp2_with (go_at_call 15; refine (HA.out _ hw).mono ?_; rintro _ w3 ⟨rfl, h3⟩; replace hw := Kept.step hw h3 (by simp); clear h3)
        go_ret
        exact ⟨rfl, hw.toBelow (by simp)⟩
      | form no =>
        clear no
        go_wp2_with (go_at_call 15; refine (HA.out _ hw).mono ?_; rintro _ w3 ⟨rfl, h3⟩; replace hw := Kept.step hw h3 (by simp); clear h3)
        go_ret
        exact ⟨rfl, hw.toBelow (by simp)⟩
    · have hsi : (40 : Int) < s.size := by omega
      have zP0 : True := trivial
      go_wp2_with (first
        | (go_at_call 25; have _t := zP1; clear _t zP1; refine (hP2.out _).mono ?_; rintro _ w3 ⟨rfl, h3⟩; replace hw := Kept.step hw h3 (by simp); clear h3)
        | (go_at_call 25; have _t := zP0; clear _t zP0; refine (hP1.out _).mono ?_; rintro _ w3 ⟨rfl, h3⟩; replace hw := Kept.step hw h3 (by simp); clear h3; have zP1 : True := trivial)
        | (go_at_call 15; refine (HA.out _ hw).mono ?_; rintro _ w3 ⟨rfl, h3⟩; replace hw := Kept.step hw h3 (by simp); clear h3))
      go_ret
      exact ⟨rfl, hw.toBelow (by simp)⟩
  · have hln : ((A.length : Int) == (B.length : Int)) = false := by simp; omega
    clear hless hl
    rcases (show s.size ≤ 40 ∨ 40 < s.size by omega) with hs | hs
    · have hsi : (s.size : Int) ≤ 40 := by omega
      have zP0 : True := trivial
      go_wp2_with (first
        | (go_at_call 25; have _t := zP1; clear _t zP1; refine (hP2.out _).mono ?_; rintro _ w3 ⟨rfl, h3⟩; replace hw := Kept.step hw h3 (by simp); clear h3)
        | (go_at_call 25; have _t := zP0; clear _t zP0; refine (hP1.out _).mono ?_; rintro _ w3 ⟨rfl, h3⟩; replace hw := Kept.step hw h3 (by simp); clear h3; have zP1 : True := trivial)
        | (go_at_call 15; refine (HA.out _ hw).mono ?_; rintro _ w3 ⟨rfl, h3⟩; replace hw := Kept.step hw h3 (by simp); clear h3))
      refine (parse_any s _).mono ?_
      rintro _ w4 ⟨n, k, hp, rfl, h4⟩
      replace hw := Kept.step hw h4 (by simp)
      clear h4
      cases hp with
      | ok c r ok le =>
        have hv := hid (valid_of c.at)
        have hd : decide (c.at ≤ 1099511627776) = true := by simpa using le
        rw [hd] at hv
        have es : (⟨s.data.toList.toArray⟩ : ByteArray) = s := (str_of rfl).symm
        have hf := hid (fun (W : World) (k : Kept [] w W) => format_at c.at c s.data.toList ok (at_lim le) r.form (HT.out.kept k))
        rw [es] at hf
        clear hd es r ok le
        go_wp2_with (first
          | (go_at_call 9; refine (hv.out _ rfl _).mono ?_; rintro _ w3 ⟨rfl, rfl⟩)
          | (go_at_call 27; refine (hf.out _ hw).mono ?_; rintro _ w3 ⟨rfl, h3⟩; replace hw := Kept.step hw h3 (by simp); clear h3)
          | (go_at_call 15; refine (HA.out _ hw).mono ?_; rintro _ w3 ⟨rfl, h3⟩; replace hw := Kept.step hw h3 (by simp); clear h3))
        go_ret
        exact ⟨rfl, hw.toBelow (by simp)⟩
      | range c r no =>
        clear r no
        go_wp2_with (go_at_call 15; refine (HA.out _ hw).mono ?_; rintro _ w3 ⟨rfl, h3⟩; replace hw := Kept.step hw h3 (by simp); clear h3)
        go_ret
        exact ⟨rfl, hw.toBelow (by simp)⟩
      | form no =>
        clear no
        go_wp2_with (go_at_call 15; refine (HA.out _ hw).mono ?_; rintro _ w3 ⟨rfl, h3⟩; replace hw := Kept.step hw h3 (by simp); clear h3)
        go_ret
        exact ⟨rfl, hw.toBelow (by simp)⟩
    · have hsi : (40 : Int) < s.size := by omega
      have zP0 : True := trivial
      go_wp2_with (first
        | (go_at_call 25; have _t := zP1; clear _t zP1; refine (hP2.out _).mono ?_; rintro _ w3 ⟨rfl, h3⟩; replace hw := Kept.step hw h3 (by simp); clear h3)
        | (go_at_call 25; have _t := zP0; clear _t zP0; refine (hP1.out _).mono ?_; rintro _ w3 ⟨rfl, h3⟩; replace hw := Kept.step hw h3 (by simp); clear h3; have zP1 : True := trivial)
        | (go_at_call 15; refine (HA.out _ hw).mono ?_; rintro _ w3 ⟨rfl, h3⟩; replace hw := Kept.step hw h3 (by simp); clear h3))
      go_ret
      exact ⟨rfl, hw.toBelow (by simp)⟩
end Go.Proofs.YtjjmcmchcmfgnaaDoor

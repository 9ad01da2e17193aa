/- Contracts: Format of both sides: the form of the one calendar form whose instant it is. -/
import Derived.Test.YtjjmcmchcmfgnaaDoorFmt
namespace Go.Proofs.YtjjmcmchcmfgnaaDoor
open Go.RowKit

/-- The library's table is laid. -/
def Tab (w : World) : Prop := Lib.TabIs Tryd.prog w "internal/strconv.uint64pow10" .u64 Lib.pow10Tab
theorem gTab : (Tryd.prog.globalNamed "internal/strconv.uint64pow10").isSome = true := by kernel_rfl
theorem Tab.kept {w w' : World} (h : Tab w) (k : Kept [] w w') : Tab w' := by
  obtain ⟨g, hg⟩ := Option.isSome_iff_exists.1 gTab
  exact Go.Joins.tab_stays hg h (k.toBelow (by simp)) (Nat.le_refl _)
theorem kept_grow (w : World) (os : Array Obj) : Kept [] w (Go.Sort.grow w os) :=
  ⟨rfl, rfl, rfl, by simp [Go.Sort.grow], fun k hk _ => by show (w.heap ++ os)[k]? = _; rw [Array.getElem?_append_left hk]⟩
theorem itoa_year (y : Nat) (h1 : 1000 ≤ y) (h2 : y < 100000) {w : World} (ht : Tab w) :
    Calls Tryd.prog 46 #[.int .i64 (y : Int)] w fun e w' => e = .returned (.string ⟨(ys y).toArray⟩) ∧ Kept [] w w' :=
  (strconv_Itoa (y : Int) (by omega) (by omega) w ht).mono fun _ _ ⟨h, k, os, hw⟩ => by
    subst hw
    refine ⟨?_, ((Kept.refl [] w).drewN _).trans (kept_grow _ _) (by simp)⟩
    rw [h, ← dec_ys h1 h2, Lib.itoa, if_neg (by omega)]
    rfl
set_option maxHeartbeats 1000000 in
theorem padded4_any (y : Nat) (h1 : 1000 ≤ y) (h2 : y < 100000) (w : World) :
    Calls Tryd.prog 48 #[.int .i64 (y : Int), .int .i64 4] w fun e w' => e = .returned (.string ⟨(ys y).toArray⟩) ∧ Kept [] w w' := by
  have E := hid (dec_ys h1 h2)
  have F := hid (rint_any y h2)
  have L := hid (ys_len y)
  rw [E.out] at F
  clear E
  generalize ys y = D at *
  by_cases h : y < 10000
  · have hl : D.length = 4 := by have := L.out; rw [if_pos h] at this; exact this
    clear L
    go_enter Tryd.func48, Tryd.ntmps48
    go_wp2_with (go_at_call 56; refine (F.out _).mono ?_; rintro e w1 ⟨rfl, h1⟩)
    go_rounds 1
    go_ret
    exact ⟨rfl, h1⟩
  · have hl : D.length = 5 := by have := L.out; rw [if_neg h] at this; exact this
    clear L
    go_enter Tryd.func48, Tryd.ntmps48
    go_wp2_with (go_at_call 56; refine (F.out _).mono ?_; rintro e w1 ⟨rfl, h1⟩)
    go_rounds 1
    go_ret
    exact ⟨rfl, h1⟩
/-- What Format returns. -/
def Formed (t : Int) (w : World) (e : Ending) (w' : World) : Prop := ∃ c : Cal, c.Ok ∧ (c.at : Int) = lim t ∧ e = .returned (.string ⟨c.form.toArray⟩) ∧ Kept [] w w'
theorem md_le (y : Nat) {m : Nat} (h1 : 1 ≤ m) (h2 : m ≤ 12) : md y m ≤ 31 := (md_bd y m h1 h2).2
theorem year_in {y d0 : Nat} (h : bf y ≤ d0 + bf 1970) (hd : d0 ≤ 12725829) : y < 40000 := by
  have h1 : ¬ 40000 ≤ y := fun hy => by
    have h2 := bf_mono hy
    have h3 : bf 40000 = 14609700 := by decide
    have h4 := bf_1970
    omega
  omega
/-- Where the year's loop begins. -/
theorem year_start (d0 : Nat) : d0 % 146097 + bf (1970 + 400 * (d0 / 146097)) = d0 + bf 1970 := by rw [bf_cycle]; omega
theorem month_in {y m d D : Nat} (h1 : 1 ≤ m) (h13 : m ≤ 13) (h : d + mb y m = D) (hD : D < yd y) : m ≤ 12 := by
  rcases Nat.lt_or_ge m 13 with h2 | h2
  · omega
  · obtain rfl : m = 13 := by omega
    rw [mb_year] at h; omega
theorem cal_made {T y m d D : Nat} (hy : 1970 ≤ y) (hD : D + bf y = T / 86400 + bf 1970) (h1 : 1 ≤ m) (h2 : m ≤ 12) (hm : d + mb y m = D) (hd : d < md y m) :
    Cal.Ok ⟨y, m, d + 1, T % 86400 / 3600, T % 86400 / 60 % 60, T % 86400 % 60⟩ ∧ Cal.at ⟨y, m, d + 1, T % 86400 / 3600, T % 86400 / 60 % 60, T % 86400 % 60⟩ = T := by
  have hb := bf_mono hy
  refine ⟨⟨hy, h1, h2, by show 1 ≤ d + 1; omega, hd, by show T % 86400 / 3600 ≤ 23; omega, by show T % 86400 / 60 % 60 ≤ 59; omega, by show T % 86400 % 60 ≤ 59; omega⟩, ?_⟩
  unfold Cal.at Cal.days
  show 86400 * (bf y - bf 1970 + mb y m + (d + 1) - 1) + 3600 * (T % 86400 / 3600) + 60 * (T % 86400 / 60 % 60) + T % 86400 % 60 = T
  omega
theorem p2_len (n : Nat) : (p2 n).length = 2 := rfl
/-- Two digits, by their contract. -/
def Two (f : FuncId) (args : Value → Array Value) (n : Nat) (P : List UInt8) : Prop := P = p2 n ∧ ∀ (x : Int), x = (n : Int) → ∀ w, Calls Tryd.prog f (args (.int .i64 x)) w fun e w' => e = .returned (.string ⟨P.toArray⟩) ∧ Kept [] w w'
theorem two_of (n : Nat) (hn : n < 100) : ∃ P : List UInt8, P.length = 2 ∧ Two 47 (fun v => #[v]) n P :=
  ⟨p2 n, rfl, rfl, fun x hx w => by subst hx; exact (two_any n hn w).mono fun _ _ h => ⟨h.1, h.2 ▸ Kept.refl _ _⟩⟩
theorem pad_of (n : Nat) (hn : n < 100) : ∃ P : List UInt8, P.length = 2 ∧ Two 48 (fun v => #[v, .int .i64 2]) n P :=
  ⟨p2 n, rfl, rfl, fun x hx w => by subst hx; exact padded2_any n hn w⟩
set_option maxHeartbeats 4000000 in
set_option maxRecDepth 100000 in
theorem format_any (t : Int) {w : World} (ht : Tab w) :
    Calls Tryd.prog 27 #[.int .i64 t] w (Formed t w) := by
  have hbd := lim_bd t
  obtain ⟨T, hT⟩ : ∃ T : Nat, lim t = (T : Int) := ⟨(lim t).toNat, by omega⟩
  rw [hT] at hbd
  have hT2 : T ≤ 1099511627776 := by omega
  have hT3 := hid hT
  have hL := hid (fun w => (limited_any t w))
  rw [hT] at hL
  clear hT hbd
  go_enter Tryd.func27, Tryd.ntmps27
  go_wp2_with (go_at_call 29; refine (hL.out _).mono ?_; rintro e w' ⟨rfl, rfl⟩)
  go_loopw [3, 5] (fun dd yy wr => ∃ (y d : Nat), 1970 ≤ y ∧ y < 40000 ∧ dd = .int .i64 (d : Int) ∧ yy = .int .i64 (y : Int) ∧ Hid (d + bf y = T / 86400 + bf 1970) ∧ d < 15000000 ∧ Kept [] w wr) (fun dd _ _ => (intOf dd).toNat)
  case atStart => exact ⟨1970 + 400 * (T / 86400 / 146097), T / 86400 % 146097, by omega, by omega, by go_num, by go_num, hid (year_start _), by omega, Kept.refl _ _⟩
  case round =>
    obtain ⟨y, d, hy1, hy2, rfl, rfl, hI, hd, hw⟩ := hrel
    by_cases hlt : d < yd y
    · have hyl : ((yd y : Nat) : Int) > d := by omega
      have hb1 : decide (yd y ≤ d) = false := by simp; omega
      have hb2 : decide (((yd y : Nat) : Int) ≤ (d : Int)) = false := by simp; omega
      go_wp2_with (go_at_call 45; refine (yearDays_any y (by omega) _).mono ?_; rintro e w' ⟨rfl, rfl⟩)
      clear hyl hb1 hb2
      go_loopw [3, 6] (fun dd mm wr2 => ∃ (m e : Nat), 1 ≤ m ∧ m ≤ 12 ∧ dd = .int .i64 (e : Int) ∧ mm = .int .i64 (m : Int) ∧ Hid (e + mb y m = d) ∧ e < 15000000 ∧ Kept [] w wr2) (fun dd _ _ => (intOf dd).toNat)
      case atStart => exact ⟨1, d, by omega, by omega, rfl, rfl, hid (by rw [mb_one]; rfl), hd, hw⟩
      case round =>
        obtain ⟨m, e, hm1, hm2, rfl, rfl, hM, he, hw2⟩ := hrel
        clear hw
        by_cases hlm : e < md y m
        · have hml : ((md y m : Nat) : Int) > e := by omega
          have hC := hid (cal_made hy1 hI.out hm1 hm2 hM.out hlm)
          have l1 := ys_len y
          have hm99 : m < 100 := by omega
          have he99 : e + 1 < 100 := by have := md_le y hm1 hm2; omega
          obtain ⟨Pm, lm, tm⟩ := two_of m hm99
          obtain ⟨Pd, ld, td⟩ := two_of (e + 1) he99
          obtain ⟨Ph, lh, th⟩ := two_of (T % 86400 / 3600) (by omega)
          obtain ⟨Pi, li, ti⟩ := two_of (T % 86400 / 60 % 60) (by omega)
          obtain ⟨Ps, ls, ts⟩ := two_of (T % 86400 % 60) (by omega)
          have tm := hid tm
          have td := hid td
          have th := hid th
          have ti := hid ti
          have ts := hid ts
          have yc := hid (fun (w : World) (h : Tab w) => itoa_year y (by omega) (by omega) h)
          have hF := hid (show Cal.form ⟨y, m, e + 1, T % 86400 / 3600, T % 86400 / 60 % 60, T % 86400 % 60⟩ = ys y ++ 45 :: (Pm ++ 45 :: (Pd ++ 84 :: (Ph ++ 58 :: (Pi ++ 58 :: (Ps ++ [90]))))) by
            rw [tm.out.1, td.out.1, th.out.1, ti.out.1, ts.out.1]; rfl)
          generalize ys y = Y at *
          by_cases h4 : y < 10000
          all_goals (
            first | rw [if_pos h4] at l1 | rw [if_neg h4] at l1
            go_wp2_with (first
              | (go_at_call 40; refine (month_any y m (by omega) hm1 hm2 _).mono ?_; rintro _ w3 ⟨rfl, h3⟩; replace hw2 := Kept.step hw2 h3 (by simp); clear h3)
              | (go_at_call 47; have _t := k4; refine (ts.out.2 _ (by omega) _).mono ?_; rintro _ w3 ⟨rfl, h3⟩; replace hw2 := Kept.step hw2 h3 (by simp); clear h3; have k5 : True := trivial)
              | (go_at_call 47; have _t := k3; refine (ti.out.2 _ (by omega) _).mono ?_; rintro _ w3 ⟨rfl, h3⟩; replace hw2 := Kept.step hw2 h3 (by simp); clear h3; have k4 : True := trivial)
              | (go_at_call 47; have _t := k2; refine (th.out.2 _ (by omega) _).mono ?_; rintro _ w3 ⟨rfl, h3⟩; replace hw2 := Kept.step hw2 h3 (by simp); clear h3; have k3 : True := trivial)
              | (go_at_call 47; have _t := k1; refine (td.out.2 _ (by omega) _).mono ?_; rintro _ w3 ⟨rfl, h3⟩; replace hw2 := Kept.step hw2 h3 (by simp); clear h3; have k2 : True := trivial)
              | (go_at_call 47; have _t := k0; refine (tm.out.2 _ (by omega) _).mono ?_; rintro _ w3 ⟨rfl, h3⟩; replace hw2 := Kept.step hw2 h3 (by simp); clear h3; have k1 : True := trivial)
              | (go_at_call 46; refine (yc.out _ (ht.kept hw2)).mono ?_; rintro _ w3 ⟨rfl, h3⟩; replace hw2 := Kept.step hw2 h3 (by simp); clear h3; have k0 : True := trivial))
            go_ret
            exact ⟨_, hC.out.1, by rw [hT3.out, hC.out.2], ret_str (by rw [hF.out]; simp only [bcat, List.append_assoc, List.cons_append, List.nil_append]), hw2⟩)
        · have hml : ((md y m : Nat) : Int) ≤ e := by omega
          have hN := hid (show e - md y m + mb y (m + 1) = d by have := hM.out; rw [mb_next y m hm1 hm2]; omega)
          have hY := hid (month_in (m := m + 1) (by omega) (by omega) hN.out hlt)
          have hp := hid (md_bd y m hm1 hm2)
          go_wp2_with (go_at_call 40; refine (month_any y m (by omega) hm1 hm2 _).mono ?_; rintro _ w3 ⟨rfl, h3⟩; replace hw2 := Kept.step hw2 h3 (by simp); clear h3)
          go_roundw
          case rel => exact ⟨m + 1, e - md y m, by omega, hY.out, by go_num, by go_num, hN, by omega, hw2⟩
          case measure => have := hp.out; simp [intOf]; omega
    · have hyl : ((yd y : Nat) : Int) ≤ d := by omega
      have hN := hid (show d - yd y + bf (y + 1) = T / 86400 + bf 1970 by have := hI.out; rw [bf_next]; omega)
      have hY := hid (year_in (y := y + 1) (d0 := T / 86400) (by have := hN.out; omega) (by omega))
      have hp := hid (yd_bd y)
      go_wp2_with (go_at_call 45; refine (yearDays_any y (by omega) _).mono ?_; rintro e w' ⟨rfl, rfl⟩)
      go_roundw
      case rel => exact ⟨y + 1, d - yd y, by omega, hY.out, by go_num, by go_num, hN, by omega, hw⟩
      case measure => have := hp.out; simp [intOf]; omega
set_option maxHeartbeats 4000000 in
set_option maxRecDepth 100000 in
theorem rformat_any (t : Int) {w : World} :
    Calls Tryd.prog 28 #[.int .i64 t] w (Formed t w) := by
  have hbd := lim_bd t
  obtain ⟨T, hT⟩ : ∃ T : Nat, lim t = (T : Int) := ⟨(lim t).toNat, by omega⟩
  rw [hT] at hbd
  have hT2 : T ≤ 1099511627776 := by omega
  have hT3 := hid hT
  have hL := hid (fun w => (limit_any t w))
  rw [hT] at hL
  clear hT hbd
  go_enter Tryd.func28, Tryd.ntmps28
  go_wp2_with (go_at_call 30; refine (hL.out _).mono ?_; rintro e w' ⟨rfl, rfl⟩)
  go_loopw [4, 5] (fun dd yy wr => ∃ (y d : Nat), 1970 ≤ y ∧ y < 40000 ∧ dd = .int .i64 (d : Int) ∧ yy = .int .i64 (y : Int) ∧ Hid (d + bf y = T / 86400 + bf 1970) ∧ d < 15000000 ∧ Kept [] w wr) (fun dd _ _ => (intOf dd).toNat)
  case atStart => exact ⟨1970 + 400 * (T / 86400 / 146097), T / 86400 % 146097, by omega, by omega, by go_num, by go_num, hid (year_start _), by omega, Kept.refl _ _⟩
  case round =>
    obtain ⟨y, d, hy1, hy2, rfl, rfl, hI, hd, hw⟩ := hrel
    by_cases hlt : d < yd y
    · have hyl : ((yd y : Nat) : Int) > d := by omega
      have hb1 : decide (yd y ≤ d) = false := by simp; omega
      have hb2 : decide (((yd y : Nat) : Int) ≤ (d : Int)) = false := by simp; omega
      go_wp2_with (go_at_call 44; refine (ryear_any y (by omega) _).mono ?_; rintro e w' ⟨rfl, rfl⟩)
      clear hyl hb1 hb2
      go_loopw [4, 6] (fun dd mm wr2 => ∃ (m e : Nat), 1 ≤ m ∧ m ≤ 12 ∧ dd = .int .i64 (e : Int) ∧ mm = .int .i64 (m : Int) ∧ Hid (e + mb y m = d) ∧ e < 15000000 ∧ Kept [] w wr2) (fun dd _ _ => (intOf dd).toNat)
      case atStart => exact ⟨1, d, by omega, by omega, rfl, rfl, hid (by rw [mb_one]; rfl), hd, hw⟩
      case round =>
        obtain ⟨m, e, hm1, hm2, rfl, rfl, hM, he, hw2⟩ := hrel
        clear hw
        by_cases hlm : e < md y m
        · have hml : ((md y m : Nat) : Int) > e := by omega
          have hC := hid (cal_made hy1 hI.out hm1 hm2 hM.out hlm)
          have l1 := ys_len y
          have hm99 : m < 100 := by omega
          have he99 : e + 1 < 100 := by have := md_le y hm1 hm2; omega
          obtain ⟨Pm, lm, tm⟩ := pad_of m hm99
          obtain ⟨Pd, ld, td⟩ := pad_of (e + 1) he99
          obtain ⟨Ph, lh, th⟩ := pad_of (T % 86400 / 3600) (by omega)
          obtain ⟨Pi, li, ti⟩ := pad_of (T % 86400 / 60 % 60) (by omega)
          obtain ⟨Ps, ls, ts⟩ := pad_of (T % 86400 % 60) (by omega)
          have tm := hid tm
          have td := hid td
          have th := hid th
          have ti := hid ti
          have ts := hid ts
          have yc := hid (fun (w : World)  => padded4_any y (by omega) (by omega) w)
          have hF := hid (show Cal.form ⟨y, m, e + 1, T % 86400 / 3600, T % 86400 / 60 % 60, T % 86400 % 60⟩ = ys y ++ 45 :: (Pm ++ 45 :: (Pd ++ 84 :: (Ph ++ 58 :: (Pi ++ 58 :: (Ps ++ [90]))))) by
            rw [tm.out.1, td.out.1, th.out.1, ti.out.1, ts.out.1]; rfl)
          generalize ys y = Y at *
          by_cases h4 : y < 10000
          all_goals (
            first | rw [if_pos h4] at l1 | rw [if_neg h4] at l1
            go_wp2_with (first
              | (go_at_call 43; refine (rmonth_any y m (by omega) hm1 hm2 _).mono ?_; rintro _ w3 ⟨rfl, h3⟩; replace hw2 := Kept.step hw2 h3 (by simp); clear h3)
              | (go_at_call 48; have _t := k4; refine (ts.out.2 _ (by omega) _).mono ?_; rintro _ w3 ⟨rfl, h3⟩; replace hw2 := Kept.step hw2 h3 (by simp); clear h3; have k5 : True := trivial)
              | (go_at_call 48; have _t := k3; refine (ti.out.2 _ (by omega) _).mono ?_; rintro _ w3 ⟨rfl, h3⟩; replace hw2 := Kept.step hw2 h3 (by simp); clear h3; have k4 : True := trivial)
              | (go_at_call 48; have _t := k2; refine (th.out.2 _ (by omega) _).mono ?_; rintro _ w3 ⟨rfl, h3⟩; replace hw2 := Kept.step hw2 h3 (by simp); clear h3; have k3 : True := trivial)
              | (go_at_call 48; have _t := k1; refine (td.out.2 _ (by omega) _).mono ?_; rintro _ w3 ⟨rfl, h3⟩; replace hw2 := Kept.step hw2 h3 (by simp); clear h3; have k2 : True := trivial)
              | (go_at_call 48; have _t := k0; refine (tm.out.2 _ (by omega) _).mono ?_; rintro _ w3 ⟨rfl, h3⟩; replace hw2 := Kept.step hw2 h3 (by simp); clear h3; have k1 : True := trivial)
              | (go_at_call 48; refine (yc.out _).mono ?_; rintro _ w3 ⟨rfl, h3⟩; replace hw2 := Kept.step hw2 h3 (by simp); clear h3; have k0 : True := trivial))
            go_ret
            exact ⟨_, hC.out.1, by rw [hT3.out, hC.out.2], ret_str (by rw [hF.out]; simp only [bcat, List.append_assoc, List.cons_append, List.nil_append]), hw2⟩)
        · have hml : ((md y m : Nat) : Int) ≤ e := by omega
          have hN := hid (show e - md y m + mb y (m + 1) = d by have := hM.out; rw [mb_next y m hm1 hm2]; omega)
          have hY := hid (month_in (m := m + 1) (by omega) (by omega) hN.out hlt)
          have hp := hid (md_bd y m hm1 hm2)
          go_wp2_with (go_at_call 43; refine (rmonth_any y m (by omega) hm1 hm2 _).mono ?_; rintro _ w3 ⟨rfl, h3⟩; replace hw2 := Kept.step hw2 h3 (by simp); clear h3)
          go_roundw
          case rel => exact ⟨m + 1, e - md y m, by omega, hY.out, by go_num, by go_num, hN, by omega, hw2⟩
          case measure => have := hp.out; simp [intOf]; omega
    · have hyl : ((yd y : Nat) : Int) ≤ d := by omega
      have hN := hid (show d - yd y + bf (y + 1) = T / 86400 + bf 1970 by have := hI.out; rw [bf_next]; omega)
      have hY := hid (year_in (y := y + 1) (d0 := T / 86400) (by have := hN.out; omega) (by omega))
      have hp := hid (yd_bd y)
      go_wp2_with (go_at_call 44; refine (ryear_any y (by omega) _).mono ?_; rintro e w' ⟨rfl, rfl⟩)
      go_roundw
      case rel => exact ⟨y + 1, d - yd y, by omega, hY.out, by go_num, by go_num, hN, by omega, hw⟩
      case measure => have := hp.out; simp [intOf]; omega
end Go.Proofs.YtjjmcmchcmfgnaaDoor

/- The calendar, in plain words: no program. -/
import Derived.Test.YtjjmcmchcmfgnaaDoorBase
import Derived.Lib.ItoaNum
namespace Go.Proofs.YtjjmcmchcmfgnaaDoor

/-- A leap year. -/
def lp (y : Nat) : Bool := y % 4 == 0 && y % 100 != 0 || y % 400 == 0
/-- The days of a year. -/
def yd (y : Nat) : Nat := if lp y = true then 366 else 365
/-- The days before a year, from year 0 on. -/
def bf (y : Nat) : Nat := 365 * y + ((y + 3) / 4 + (y + 399) / 400 - (y + 99) / 100)
theorem lp_iff (y : Nat) : lp y = true ↔ (y % 4 = 0 ∧ y % 100 ≠ 0 ∨ y % 400 = 0) := by simp [lp]
theorem bf_next (y : Nat) : bf (y + 1) = bf y + yd y := by
  have h1 : (y + 1 + 3) / 4 = (y + 3) / 4 + (if y % 4 = 0 then 1 else 0) := by split <;> omega
  have h2 : (y + 1 + 99) / 100 = (y + 99) / 100 + (if y % 100 = 0 then 1 else 0) := by split <;> omega
  have h3 : (y + 1 + 399) / 400 = (y + 399) / 400 + (if y % 400 = 0 then 1 else 0) := by split <;> omega
  have h4 : (y + 99) / 100 ≤ (y + 3) / 4 := by omega
  have h5 : y % 400 = 0 → y % 100 = 0 := by omega
  have h6 : y % 100 = 0 → y % 4 = 0 := by omega
  unfold bf yd
  rw [h1, h2, h3]
  generalize (y + 3) / 4 = a at *
  generalize (y + 99) / 100 = b at *
  generalize (y + 399) / 400 = c at *
  clear h1 h2 h3
  by_cases e4 : y % 4 = 0
  · by_cases e1 : y % 100 = 0
    · by_cases e0 : y % 400 = 0
      · simp only [e4, e1, e0, if_true, lp]; simp; omega
      · simp only [e4, e1, e0, if_true, if_false, lp]; simp [e0]; omega
    · have e0 : y % 400 ≠ 0 := fun e => e1 (h5 e)
      simp only [e4, e1, e0, if_true, if_false, lp]; simp [e1]; omega
  · have e1 : y % 100 ≠ 0 := fun e => e4 (h6 e)
    have e0 : y % 400 ≠ 0 := fun e => e1 (h5 e)
    simp only [e4, e1, e0, if_false, lp]; simp [e4, e0]; omega
theorem yd_bd (y : Nat) : 365 ≤ yd y ∧ yd y ≤ 366 := by unfold yd; split <;> omega
theorem bf_mono {a b : Nat} (h : a ≤ b) : bf a ≤ bf b := by
  obtain ⟨k, rfl⟩ := Nat.le.dest h
  induction k with
  | zero => exact Nat.le_refl _
  | succ k ih => rw [← Nat.add_assoc, bf_next]; have := ih (by omega); omega
theorem bf_step {a b : Nat} (h : a < b) : bf a + yd a ≤ bf b := by rw [← bf_next]; exact bf_mono h
theorem bf_cycle (y q : Nat) : bf (y + 400 * q) = bf y + 146097 * q := by unfold bf; omega
theorem yd_cycle (y q : Nat) : yd (y + 400 * q) = yd y := by
  have h1 := bf_next (y + 400 * q)
  have h2 := bf_next y
  have h3 := bf_cycle y q
  have h4 := bf_cycle (y + 1) q
  rw [show y + 1 + 400 * q = y + 400 * q + 1 from by omega] at h4
  omega
theorem bf_1970 : bf 1970 = 719528 := by decide
/-- The days of a month from 1 to 12. -/
def md (y m : Nat) : Nat := if m = 2 ∧ lp y = true then 29 else [31, 28, 31, 30, 31, 30, 31, 31, 30, 31, 30, 31].getD (m - 1) 0
/-- The days of a year before a month. -/
def mb (y m : Nat) : Nat := [0, 31, 59, 90, 120, 151, 181, 212, 243, 273, 304, 334, 365].getD (m - 1) 0 + if 2 < m ∧ lp y = true then 1 else 0
theorem mb_one (y : Nat) : mb y 1 = 0 := by simp [mb]
theorem mb_next (y m : Nat) (h1 : 1 ≤ m) (h2 : m ≤ 12) : mb y (m + 1) = mb y m + md y m := by
  obtain rfl | rfl | rfl | rfl | rfl | rfl | rfl | rfl | rfl | rfl | rfl | rfl : m = 1 ∨ m = 2 ∨ m = 3 ∨ m = 4 ∨ m = 5 ∨ m = 6 ∨ m = 7 ∨ m = 8 ∨ m = 9 ∨ m = 10 ∨ m = 11 ∨ m = 12 := by omega
  all_goals (cases h : lp y <;> simp [mb, md, h])
theorem mb_year (y : Nat) : mb y 13 = yd y := by cases h : lp y <;> simp [mb, yd, h]
theorem md_bd (y m : Nat) (h1 : 1 ≤ m) (h2 : m ≤ 12) : 28 ≤ md y m ∧ md y m ≤ 31 := by
  obtain rfl | rfl | rfl | rfl | rfl | rfl | rfl | rfl | rfl | rfl | rfl | rfl : m = 1 ∨ m = 2 ∨ m = 3 ∨ m = 4 ∨ m = 5 ∨ m = 6 ∨ m = 7 ∨ m = 8 ∨ m = 9 ∨ m = 10 ∨ m = 11 ∨ m = 12 := by omega
  all_goals (cases h : lp y <;> simp [md, h])
theorem mb_mono (y : Nat) {a b : Nat} (h1 : 1 ≤ a) (h : a ≤ b) (h2 : b ≤ 13) : mb y a ≤ mb y b := by
  obtain ⟨k, rfl⟩ := Nat.le.dest h
  induction k with
  | zero => exact Nat.le_refl _
  | succ k ih => rw [← Nat.add_assoc, mb_next y _ (by omega) (by omega)]; have := ih (by omega) (by omega); omega
theorem mb_step (y : Nat) {a b : Nat} (h1 : 1 ≤ a) (h : a < b) (h2 : b ≤ 13) : mb y a + md y a ≤ mb y b := by
  rw [← mb_next y a h1 (by omega)]
  exact mb_mono y (by omega) h h2

/-- A calendar form. -/
structure Cal where
  y : Nat
  m : Nat
  d : Nat
  h : Nat
  i : Nat
  s : Nat
structure Cal.Ok (c : Cal) : Prop where
  y : 1970 ≤ c.y
  m1 : 1 ≤ c.m
  m2 : c.m ≤ 12
  d1 : 1 ≤ c.d
  d2 : c.d ≤ md c.y c.m
  h : c.h ≤ 23
  i : c.i ≤ 59
  s : c.s ≤ 59
/-- The days from 1970 to the day of a calendar form. -/
def Cal.days (c : Cal) : Nat := bf c.y - bf 1970 + mb c.y c.m + c.d - 1
/-- Its instant. -/
def Cal.at (c : Cal) : Nat := 86400 * c.days + 3600 * c.h + 60 * c.i + c.s
/-- The order of calendar forms. -/
inductive Cal.Lt : Cal → Cal → Prop
  | y {a b : Cal} (h : a.y < b.y) : Cal.Lt a b
  | m {a b : Cal} (h1 : a.y = b.y) (h : a.m < b.m) : Cal.Lt a b
  | d {a b : Cal} (h1 : a.y = b.y) (h2 : a.m = b.m) (h : a.d < b.d) : Cal.Lt a b
  | h {a b : Cal} (h1 : a.y = b.y) (h2 : a.m = b.m) (h3 : a.d = b.d) (h : a.h < b.h) : Cal.Lt a b
  | i {a b : Cal} (h1 : a.y = b.y) (h2 : a.m = b.m) (h3 : a.d = b.d) (h4 : a.h = b.h) (h : a.i < b.i) : Cal.Lt a b
  | s {a b : Cal} (h1 : a.y = b.y) (h2 : a.m = b.m) (h3 : a.d = b.d) (h4 : a.h = b.h) (h5 : a.i = b.i) (h : a.s < b.s) : Cal.Lt a b
theorem Cal.day_in {c : Cal} (k : c.Ok) : mb c.y c.m + c.d ≤ yd c.y := by
  have h1 : mb c.y c.m + md c.y c.m ≤ mb c.y 13 := mb_step c.y k.m1 (by have := k.m2; omega) (Nat.le_refl _)
  rw [mb_year] at h1
  have := k.d2
  omega
theorem Cal.Lt.at {a b : Cal} (h : Cal.Lt a b) (ka : a.Ok) (kb : b.Ok) : a.at < b.at := by
  have d : a.days < b.days ∨ a.days = b.days ∧ (a.h < b.h ∨ a.h = b.h ∧ (a.i < b.i ∨ a.i = b.i ∧ a.s < b.s)) := by
    have la := Cal.day_in ka
    have m1 := bf_mono ka.y
    have m2 := bf_mono kb.y
    have d1 := ka.d1
    have d2 := kb.d1
    have da := ka.d2
    unfold Cal.days
    cases h with
    | y h => have := bf_step h; omega
    | m h1 h => have := mb_step a.y ka.m1 h (by have := kb.m2; omega); rw [← h1]; omega
    | d h1 h2 h => rw [← h1, ← h2]; omega
    | h h1 h2 h3 h => rw [← h1, ← h2, ← h3]; exact .inr ⟨rfl, .inl h⟩
    | i h1 h2 h3 h4 h => rw [← h1, ← h2, ← h3]; exact .inr ⟨rfl, .inr ⟨h4, .inl h⟩⟩
    | s h1 h2 h3 h4 h5 h => rw [← h1, ← h2, ← h3]; exact .inr ⟨rfl, .inr ⟨h4, .inr ⟨h5, h⟩⟩⟩
  have := ka.h; have := ka.i; have := ka.s
  have := kb.h; have := kb.i; have := kb.s
  unfold Cal.at
  omega
theorem Cal.tri (a b : Cal) : Cal.Lt a b ∨ a = b ∨ Cal.Lt b a := by
  rcases Nat.lt_trichotomy a.y b.y with h | h1 | h
  · exact .inl (.y h)
  · rcases Nat.lt_trichotomy a.m b.m with h | h2 | h
    · exact .inl (.m h1 h)
    · rcases Nat.lt_trichotomy a.d b.d with h | h3 | h
      · exact .inl (.d h1 h2 h)
      · rcases Nat.lt_trichotomy a.h b.h with h | h4 | h
        · exact .inl (.h h1 h2 h3 h)
        · rcases Nat.lt_trichotomy a.i b.i with h | h5 | h
          · exact .inl (.i h1 h2 h3 h4 h)
          · rcases Nat.lt_trichotomy a.s b.s with h | h6 | h
            · exact .inl (.s h1 h2 h3 h4 h5 h)
            · exact .inr (.inl (by cases a; cases b; simp_all))
            · exact .inr (.inr (.s h1.symm h2.symm h3.symm h4.symm h5.symm h))
          · exact .inr (.inr (.i h1.symm h2.symm h3.symm h4.symm h))
        · exact .inr (.inr (.h h1.symm h2.symm h3.symm h))
      · exact .inr (.inr (.d h1.symm h2.symm h))
    · exact .inr (.inr (.m h1.symm h))
  · exact .inr (.inr (.y h))
theorem Cal.uniq {a b : Cal} (ka : a.Ok) (kb : b.Ok) (h : a.at = b.at) : a = b := by
  rcases Cal.tri a b with l | e | l
  · have := l.at ka kb; omega
  · exact e
  · have := l.at kb ka; omega
theorem Cal.lt_iff {a b : Cal} (ka : a.Ok) (kb : b.Ok) : Cal.Lt a b ↔ a.at < b.at := by
  constructor
  · exact fun h => h.at ka kb
  · intro h
    rcases Cal.tri a b with l | e | l
    · exact l
    · subst e; omega
    · have := l.at kb ka; omega

/-! ### the bytes of a form -/
def dgt (n : Nat) : UInt8 := UInt8.ofNat (48 + n)
theorem dgt_nat {n : Nat} (h : n ≤ 9) : (dgt n).toNat = 48 + n := by
  unfold dgt; rw [UInt8.toNat_ofNat']; omega
def p2 (n : Nat) : List UInt8 := [dgt (n / 10), dgt (n % 10)]
def ys (y : Nat) : List UInt8 :=
  if y < 10000 then [dgt (y / 1000), dgt (y / 100 % 10), dgt (y / 10 % 10), dgt (y % 10)]
  else [dgt (y / 10000), dgt (y / 1000 % 10), dgt (y / 100 % 10), dgt (y / 10 % 10), dgt (y % 10)]
def Cal.form (c : Cal) : List UInt8 := ys c.y ++ 45 :: (p2 c.m ++ 45 :: (p2 c.d ++ 84 :: (p2 c.h ++ 58 :: (p2 c.i ++ 58 :: (p2 c.s ++ [90])))))
theorem Cal.form_len (c : Cal) : c.form.length = if c.y < 10000 then 20 else 21 := by
  unfold Cal.form ys p2; split <;> simp

/-! ### reading a form -/
def isd (b : UInt8) : Bool := decide (48 ≤ b.toNat) && decide (b.toNat ≤ 57)
def dv (b : UInt8) : Nat := b.toNat - 48
def num (l : List UInt8) : Nat := l.foldl (fun v b => 10 * v + dv b) 0
theorem dv_dgt {n : Nat} (h : n ≤ 9) : dv (dgt n) = n := by unfold dv; rw [dgt_nat h]; omega
theorem isd_dgt {n : Nat} (h : n ≤ 9) : isd (dgt n) = true := by unfold isd; rw [dgt_nat h]; simp; omega
theorem dgt_dv {b : UInt8} (h : isd b = true) : dgt (dv b) = b := by
  unfold isd at h
  simp at h
  unfold dgt dv
  rw [show 48 + (b.toNat - 48) = b.toNat from by omega]
  simp
theorem dv_le {b : UInt8} (h : isd b = true) : dv b ≤ 9 := by unfold isd at h; simp at h; unfold dv; omega
/-- The bytes behind the year. -/
def tailOk (t : List UInt8) : Prop := ∃ a b c d e f g h i j, t = [45, a, b, 45, c, d, 84, e, f, 58, g, h, 58, i, j, 90] ∧ isd a = true ∧ isd b = true ∧ isd c = true ∧ isd d = true ∧ isd e = true ∧ isd f = true ∧ isd g = true ∧ isd h = true ∧ isd i = true ∧ isd j = true
/-- A string has the form, with these numbers. -/
inductive Reads : List UInt8 → Cal → Prop
  | four (y1 y2 y3 y4 a b c d e f g h i j : UInt8) (hy1 : isd y1 = true) (hy2 : isd y2 = true) (hy3 : isd y3 = true) (hy4 : isd y4 = true)
      (ha : isd a = true) (hb : isd b = true) (hc : isd c = true) (hd : isd d = true) (he : isd e = true) (hf : isd f = true) (hg : isd g = true) (hh : isd h = true) (hi : isd i = true) (hj : isd j = true) :
      Reads [y1, y2, y3, y4, 45, a, b, 45, c, d, 84, e, f, 58, g, h, 58, i, j, 90] ⟨num [y1, y2, y3, y4], num [a, b], num [c, d], num [e, f], num [g, h], num [i, j]⟩
  | five (y0 y1 y2 y3 y4 a b c d e f g h i j : UInt8) (hy0 : isd y0 = true) (hn : y0 ≠ 48) (hy1 : isd y1 = true) (hy2 : isd y2 = true) (hy3 : isd y3 = true) (hy4 : isd y4 = true)
      (ha : isd a = true) (hb : isd b = true) (hc : isd c = true) (hd : isd d = true) (he : isd e = true) (hf : isd f = true) (hg : isd g = true) (hh : isd h = true) (hi : isd i = true) (hj : isd j = true) :
      Reads [y0, y1, y2, y3, y4, 45, a, b, 45, c, d, 84, e, f, 58, g, h, 58, i, j, 90] ⟨num [y0, y1, y2, y3, y4], num [a, b], num [c, d], num [e, f], num [g, h], num [i, j]⟩
theorem Reads.uniq {s : List UInt8} {c d : Cal} (h : Reads s c) (k : Reads s d) : c = d := by
  cases h <;> cases k <;> rfl
theorem num2 {a b : UInt8} (ha : isd a = true) (hb : isd b = true) : p2 (num [a, b]) = [a, b] := by
  have h1 := dv_le ha
  have h2 := dv_le hb
  simp only [num, List.foldl_cons, List.foldl_nil, p2, Nat.mul_zero, Nat.zero_add]
  rw [show (10 * dv a + dv b) / 10 = dv a from by omega, show (10 * dv a + dv b) % 10 = dv b from by omega, dgt_dv ha, dgt_dv hb]
theorem num4 {a b c d : UInt8} (ha : isd a = true) (hb : isd b = true) (hc : isd c = true) (hd : isd d = true) : ys (num [a, b, c, d]) = [a, b, c, d] := by
  have h1 := dv_le ha
  have h2 := dv_le hb
  have h3 := dv_le hc
  have h4 := dv_le hd
  simp only [num, List.foldl_cons, List.foldl_nil, ys, Nat.mul_zero, Nat.zero_add]
  generalize hn : 10 * (10 * (10 * dv a + dv b) + dv c) + dv d = n
  rw [if_pos (by omega), show n / 1000 = dv a from by omega, show n / 100 % 10 = dv b from by omega, show n / 10 % 10 = dv c from by omega, show n % 10 = dv d from by omega, dgt_dv ha, dgt_dv hb, dgt_dv hc, dgt_dv hd]
theorem num5 {z a b c d : UInt8} (hz : isd z = true) (hn : z ≠ 48) (ha : isd a = true) (hb : isd b = true) (hc : isd c = true) (hd : isd d = true) : ys (num [z, a, b, c, d]) = [z, a, b, c, d] := by
  have h0 := dv_le hz
  have h1 := dv_le ha
  have h2 := dv_le hb
  have h3 := dv_le hc
  have h4 := dv_le hd
  have hz0 : dv z ≠ 0 := by
    intro e
    apply hn
    have := dgt_dv hz
    rw [e] at this
    rw [← this]
    decide
  simp only [num, List.foldl_cons, List.foldl_nil, ys, Nat.mul_zero, Nat.zero_add]
  generalize hn : 10 * (10 * (10 * (10 * dv z + dv a) + dv b) + dv c) + dv d = n
  rw [if_neg (by omega), show n / 10000 = dv z from by omega, show n / 1000 % 10 = dv a from by omega, show n / 100 % 10 = dv b from by omega, show n / 10 % 10 = dv c from by omega, show n % 10 = dv d from by omega, dgt_dv hz, dgt_dv ha, dgt_dv hb, dgt_dv hc, dgt_dv hd]
/-- What has the form is the form of its numbers. -/
theorem Reads.form {s : List UInt8} {c : Cal} (h : Reads s c) : c.form = s := by
  cases h with
  | four y1 y2 y3 y4 a b c d e f g h i j hy1 hy2 hy3 hy4 ha hb hc hd he hf hg hh hi hj =>
    unfold Cal.form
    simp only [num4 hy1 hy2 hy3 hy4, num2 ha hb, num2 hc hd, num2 he hf, num2 hg hh, num2 hi hj]
    rfl
  | five y0 y1 y2 y3 y4 a b c d e f g h i j hy0 hn hy1 hy2 hy3 hy4 ha hb hc hd he hf hg hh hi hj =>
    unfold Cal.form
    simp only [num5 hy0 hn hy1 hy2 hy3 hy4, num2 ha hb, num2 hc hd, num2 he hf, num2 hg hh, num2 hi hj]
    rfl
theorem num_p2 {n : Nat} (h : n < 100) : num [dgt (n / 10), dgt (n % 10)] = n := by
  simp only [num, List.foldl_cons, List.foldl_nil, Nat.mul_zero, Nat.zero_add, dv_dgt (show n / 10 ≤ 9 by omega), dv_dgt (show n % 10 ≤ 9 by omega)]
  omega
/-- The form of a calendar form is read as it. -/
theorem Cal.reads {c : Cal} (k : c.Ok) (hy : c.y < 100000) : Reads c.form c := by
  have hm : c.m < 100 := by have := k.m2; omega
  have hd : c.d < 100 := by have := k.d2; have := md_bd c.y c.m k.m1 k.m2; omega
  have hh : c.h < 100 := by have := k.h; omega
  have hi : c.i < 100 := by have := k.i; omega
  have hs : c.s < 100 := by have := k.s; omega
  have e2 := num_p2 hm
  have e3 := num_p2 hd
  have e4 := num_p2 hh
  have e5 := num_p2 hi
  have e6 := num_p2 hs
  have D : ∀ n : Nat, n < 100 → isd (dgt (n / 10)) = true ∧ isd (dgt (n % 10)) = true := fun n h => ⟨isd_dgt (by omega), isd_dgt (by omega)⟩
  by_cases h4 : c.y < 10000
  · have e1 : num [dgt (c.y / 1000), dgt (c.y / 100 % 10), dgt (c.y / 10 % 10), dgt (c.y % 10)] = c.y := by
      simp only [num, List.foldl_cons, List.foldl_nil, Nat.mul_zero, Nat.zero_add, dv_dgt (show c.y / 1000 ≤ 9 by omega), dv_dgt (show c.y / 100 % 10 ≤ 9 by omega), dv_dgt (show c.y / 10 % 10 ≤ 9 by omega), dv_dgt (show c.y % 10 ≤ 9 by omega)]
      omega
    have r := Reads.four (dgt (c.y / 1000)) (dgt (c.y / 100 % 10)) (dgt (c.y / 10 % 10)) (dgt (c.y % 10)) (dgt (c.m / 10)) (dgt (c.m % 10)) (dgt (c.d / 10)) (dgt (c.d % 10)) (dgt (c.h / 10)) (dgt (c.h % 10)) (dgt (c.i / 10)) (dgt (c.i % 10)) (dgt (c.s / 10)) (dgt (c.s % 10))
      (isd_dgt (by omega)) (isd_dgt (by omega)) (isd_dgt (by omega)) (isd_dgt (by omega)) (D _ hm).1 (D _ hm).2 (D _ hd).1 (D _ hd).2 (D _ hh).1 (D _ hh).2 (D _ hi).1 (D _ hi).2 (D _ hs).1 (D _ hs).2
    rw [e1, e2, e3, e4, e5, e6] at r
    unfold Cal.form ys p2
    rw [if_pos h4]
    exact r
  · have e1 : num [dgt (c.y / 10000), dgt (c.y / 1000 % 10), dgt (c.y / 100 % 10), dgt (c.y / 10 % 10), dgt (c.y % 10)] = c.y := by
      simp only [num, List.foldl_cons, List.foldl_nil, Nat.mul_zero, Nat.zero_add, dv_dgt (show c.y / 10000 ≤ 9 by omega), dv_dgt (show c.y / 1000 % 10 ≤ 9 by omega), dv_dgt (show c.y / 100 % 10 ≤ 9 by omega), dv_dgt (show c.y / 10 % 10 ≤ 9 by omega), dv_dgt (show c.y % 10 ≤ 9 by omega)]
      omega
    have hn : dgt (c.y / 10000) ≠ 48 := by
      intro e
      have := congrArg UInt8.toNat e
      rw [dgt_nat (by omega)] at this
      have h48 : (48 : UInt8).toNat = 48 := rfl
      omega
    have r := Reads.five (dgt (c.y / 10000)) (dgt (c.y / 1000 % 10)) (dgt (c.y / 100 % 10)) (dgt (c.y / 10 % 10)) (dgt (c.y % 10)) (dgt (c.m / 10)) (dgt (c.m % 10)) (dgt (c.d / 10)) (dgt (c.d % 10)) (dgt (c.h / 10)) (dgt (c.h % 10)) (dgt (c.i / 10)) (dgt (c.i % 10)) (dgt (c.s / 10)) (dgt (c.s % 10))
      (isd_dgt (by omega)) hn (isd_dgt (by omega)) (isd_dgt (by omega)) (isd_dgt (by omega)) (isd_dgt (by omega)) (D _ hm).1 (D _ hm).2 (D _ hd).1 (D _ hd).2 (D _ hh).1 (D _ hh).2 (D _ hi).1 (D _ hi).2 (D _ hs).1 (D _ hs).2
    rw [e1, e2, e3, e4, e5, e6] at r
    unfold Cal.form ys p2
    rw [if_neg h4]
    exact r
/-- What Parse answers. -/
inductive Parsed (s : List UInt8) : Int → Int → Prop
  | ok (c : Cal) (r : Reads s c) (k : c.Ok) (h : c.at ≤ 1099511627776) : Parsed s c.at 0
  | range (c : Cal) (r : Reads s c) (h : ¬ (c.Ok ∧ c.at ≤ 1099511627776)) : Parsed s 0 27
  | form (h : ∀ c, ¬ Reads s c) : Parsed s 0 4

/-! ### the decimal digits -/
theorem dec_p2 {n : Nat} (h : n < 100) : (if n < 10 then 48 :: Lib.decDigits n else Lib.decDigits n) = p2 n := by
  unfold p2 dgt
  split
  · rename_i h1
    rw [Lib.decDigits_one h1, show n / 10 = 0 from by omega, show n % 10 = n from by omega]
    rfl
  · rename_i h1
    rw [Lib.decDigits_two h1 h]
theorem dec_ys {y : Nat} (h1 : 1000 ≤ y) (h2 : y < 100000) : Lib.decDigits y = ys y := by
  unfold ys dgt
  split
  · rename_i h
    rw [Lib.decDigits, dif_neg (by omega), Lib.decDigits, dif_neg (by omega), Lib.decDigits_two (by omega) (by omega)]
    rw [show y / 10 / 10 / 10 = y / 1000 from by omega, show y / 10 / 10 % 10 = y / 100 % 10 from by omega]
    rfl
  · rename_i h
    rw [Lib.decDigits, dif_neg (by omega), Lib.decDigits, dif_neg (by omega), Lib.decDigits, dif_neg (by omega), Lib.decDigits_two (by omega) (by omega)]
    rw [show y / 10 / 10 / 10 / 10 = y / 10000 from by omega, show y / 10 / 10 / 10 % 10 = y / 1000 % 10 from by omega, show y / 10 / 10 % 10 = y / 100 % 10 from by omega]
    rfl

/-! ### the order of forms -/
theorem lt_pre : ∀ (p : List UInt8) {a b : List UInt8}, a < b → p ++ a < p ++ b
  | [], _, _, h => h
  | _ :: p, _, _, h => List.cons_lt_cons_iff.2 (.inr ⟨rfl, lt_pre p h⟩)
theorem lt_head : ∀ {x y : List UInt8} (p q : List UInt8), x.length = y.length → x < y → x ++ p < y ++ q
  | [], [], _, _, _, h => absurd h (List.not_lt_nil _)
  | [], _ :: _, _, _, h, _ => by simp at h
  | _ :: _, [], _, _, h, _ => by simp at h
  | a :: x, b :: y, p, q, hl, h => by
    rcases List.cons_lt_cons_iff.1 h with h | ⟨e, h⟩
    · exact List.cons_lt_cons_iff.2 (.inl h)
    · exact List.cons_lt_cons_iff.2 (.inr ⟨e, lt_head p q (by simpa using hl) h⟩)
theorem dgt_lt {a b : Nat} (ha : a ≤ 9) (hb : b ≤ 9) (h : a < b) : dgt a < dgt b := by
  rw [UInt8.lt_iff_toNat_lt, dgt_nat ha, dgt_nat hb]; omega
theorem p2_lt {a b : Nat} (hb : b < 100) (h : a < b) : p2 a < p2 b := by
  unfold p2
  rcases Nat.lt_or_ge (a / 10) (b / 10) with h1 | h1
  · exact List.cons_lt_cons_iff.2 (.inl (dgt_lt (by omega) (by omega) h1))
  · refine List.cons_lt_cons_iff.2 (.inr ⟨by rw [show a / 10 = b / 10 from by omega], List.cons_lt_cons_iff.2 (.inl (dgt_lt (by omega) (by omega) (by omega)))⟩)
theorem ys_lt {a b : Nat} (hb : b < 100000) (hl : a < 10000 ↔ b < 10000) (h : a < b) : ys a < ys b := by
  unfold ys
  by_cases h4 : b < 10000
  · rw [if_pos (by omega), if_pos h4]
    rcases Nat.lt_or_ge (a / 1000) (b / 1000) with h1 | h1
    · exact List.cons_lt_cons_iff.2 (.inl (dgt_lt (by omega) (by omega) h1))
    refine List.cons_lt_cons_iff.2 (.inr ⟨by rw [show a / 1000 = b / 1000 from by omega], ?_⟩)
    rcases Nat.lt_or_ge (a / 100) (b / 100) with h1 | h1
    · exact List.cons_lt_cons_iff.2 (.inl (dgt_lt (by omega) (by omega) (by omega)))
    refine List.cons_lt_cons_iff.2 (.inr ⟨by rw [show a / 100 % 10 = b / 100 % 10 from by omega], ?_⟩)
    rcases Nat.lt_or_ge (a / 10) (b / 10) with h1 | h1
    · exact List.cons_lt_cons_iff.2 (.inl (dgt_lt (by omega) (by omega) (by omega)))
    exact List.cons_lt_cons_iff.2 (.inr ⟨by rw [show a / 10 % 10 = b / 10 % 10 from by omega], List.cons_lt_cons_iff.2 (.inl (dgt_lt (by omega) (by omega) (by omega)))⟩)
  · rw [if_neg (by omega), if_neg h4]
    rcases Nat.lt_or_ge (a / 10000) (b / 10000) with h1 | h1
    · exact List.cons_lt_cons_iff.2 (.inl (dgt_lt (by omega) (by omega) h1))
    refine List.cons_lt_cons_iff.2 (.inr ⟨by rw [show a / 10000 = b / 10000 from by omega], ?_⟩)
    rcases Nat.lt_or_ge (a / 1000) (b / 1000) with h1 | h1
    · exact List.cons_lt_cons_iff.2 (.inl (dgt_lt (by omega) (by omega) (by omega)))
    refine List.cons_lt_cons_iff.2 (.inr ⟨by rw [show a / 1000 % 10 = b / 1000 % 10 from by omega], ?_⟩)
    rcases Nat.lt_or_ge (a / 100) (b / 100) with h1 | h1
    · exact List.cons_lt_cons_iff.2 (.inl (dgt_lt (by omega) (by omega) (by omega)))
    refine List.cons_lt_cons_iff.2 (.inr ⟨by rw [show a / 100 % 10 = b / 100 % 10 from by omega], ?_⟩)
    rcases Nat.lt_or_ge (a / 10) (b / 10) with h1 | h1
    · exact List.cons_lt_cons_iff.2 (.inl (dgt_lt (by omega) (by omega) (by omega)))
    exact List.cons_lt_cons_iff.2 (.inr ⟨by rw [show a / 10 % 10 = b / 10 % 10 from by omega], List.cons_lt_cons_iff.2 (.inl (dgt_lt (by omega) (by omega) (by omega)))⟩)
theorem ys_len (y : Nat) : (ys y).length = if y < 10000 then 4 else 5 := by unfold ys; split <;> rfl
theorem Cal.Lt.form {a b : Cal} (h : Cal.Lt a b) (kb : b.Ok) (hy : b.y < 100000) (hl : a.form.length = b.form.length) : a.form < b.form := by
  have h4 : a.y < 10000 ↔ b.y < 10000 := by
    rw [Cal.form_len, Cal.form_len] at hl
    by_cases h1 : a.y < 10000 <;> by_cases h2 : b.y < 10000 <;> simp [h1, h2] at hl ⊢
  have hm : b.m < 100 := by have := kb.m2; omega
  have hd : b.d < 100 := by have := kb.d2; have := md_bd b.y b.m kb.m1 kb.m2; omega
  have hh : b.h < 100 := by have := kb.h; omega
  have hi : b.i < 100 := by have := kb.i; omega
  have hs : b.s < 100 := by have := kb.s; omega
  unfold Cal.form
  cases h with
  | y h => exact lt_head _ _ (by rw [ys_len, ys_len]; simp [h4]) (ys_lt hy h4 h)
  | m h1 h => rw [h1]; exact lt_pre _ (List.cons_lt_cons_iff.2 (.inr ⟨rfl, lt_head (x := p2 a.m) (y := p2 b.m) _ _ rfl (p2_lt hm h)⟩))
  | d h1 h2 h => rw [h1, h2]; exact lt_pre _ (lt_pre (45 :: (p2 b.m ++ [45])) (lt_head (x := p2 a.d) (y := p2 b.d) _ _ rfl (p2_lt hd h)))
  | h h1 h2 h3 h => rw [h1, h2, h3]; exact lt_pre _ (lt_pre (45 :: (p2 b.m ++ 45 :: (p2 b.d ++ [84]))) (lt_head (x := p2 a.h) (y := p2 b.h) _ _ rfl (p2_lt hh h)))
  | i h1 h2 h3 h4 h => rw [h1, h2, h3, h4]; exact lt_pre _ (lt_pre (45 :: (p2 b.m ++ 45 :: (p2 b.d ++ 84 :: (p2 b.h ++ [58])))) (lt_head (x := p2 a.i) (y := p2 b.i) _ _ rfl (p2_lt hi h)))
  | s h1 h2 h3 h4 h5 h => rw [h1, h2, h3, h4, h5]; exact lt_pre _ (lt_pre (45 :: (p2 b.m ++ 45 :: (p2 b.d ++ 84 :: (p2 b.h ++ 58 :: (p2 b.i ++ [58]))))) (lt_head (x := p2 a.s) (y := p2 b.s) _ _ rfl (p2_lt hs h)))
theorem Cal.form_lt {a b : Cal} (ka : a.Ok) (kb : b.Ok) (ha : a.y < 100000) (hb : b.y < 100000) (hl : a.form.length = b.form.length) : a.form < b.form ↔ a.at < b.at := by
  constructor
  · intro h
    rcases Cal.tri a b with l | e | l
    · exact l.at ka kb
    · subst e; exact absurd h (List.lt_irrefl _)
    · exact absurd (l.form ka ha hl.symm) (List.lt_asymm h)
  · intro h
    exact ((Cal.lt_iff ka kb).2 h).form kb hb hl
/-- The year of an instant. -/
theorem Cal.year_lt {c : Cal} (k : c.Ok) (h : c.at ≤ 1099511627776) : c.y < 40000 := by
  have h1 : ¬ 40000 ≤ c.y := fun hy => by
    have h2 := bf_mono hy
    have h3 : bf 40000 = 14609700 := by decide
    have h4 := bf_1970
    unfold Cal.at Cal.days at h
    have := k.d1
    omega
  omega
end Go.Proofs.YtjjmcmchcmfgnaaDoor

/- Contract: Parse. -/
import Derived.Test.YtjjmcmchcmfgnaaDoorDig
import Derived.Test.YtjjmcmchcmfgnaaDoorInst
namespace Go.Proofs.YtjjmcmchcmfgnaaDoor
open Go.RowKit

theorem uncons {n : Nat} {l : List UInt8} (h : l.length = n + 1) : ∃ x t, l = x :: t ∧ t.length = n := by
  cases l with
  | nil => simp at h
  | cons x t => exact ⟨x, t, rfl, by simpa using h⟩
theorem list20 {l : List UInt8} (h : l.length = 20) : ∃ y1 y2 y3 y4 p1 a b p2 c d p3 e f p4 g q p5 i j p6 : UInt8, l = [y1, y2, y3, y4, p1, a, b, p2, c, d, p3, e, f, p4, g, q, p5, i, j, p6] := by
  obtain ⟨y1, l0, rfl, h0⟩ := uncons h
  obtain ⟨y2, l1, rfl, h1⟩ := uncons h0
  obtain ⟨y3, l2, rfl, h2⟩ := uncons h1
  obtain ⟨y4, l3, rfl, h3⟩ := uncons h2
  obtain ⟨p1, l4, rfl, h4⟩ := uncons h3
  obtain ⟨a, l5, rfl, h5⟩ := uncons h4
  obtain ⟨b, l6, rfl, h6⟩ := uncons h5
  obtain ⟨p2, l7, rfl, h7⟩ := uncons h6
  obtain ⟨c, l8, rfl, h8⟩ := uncons h7
  obtain ⟨d, l9, rfl, h9⟩ := uncons h8
  obtain ⟨p3, l10, rfl, h10⟩ := uncons h9
  obtain ⟨e, l11, rfl, h11⟩ := uncons h10
  obtain ⟨f, l12, rfl, h12⟩ := uncons h11
  obtain ⟨p4, l13, rfl, h13⟩ := uncons h12
  obtain ⟨g, l14, rfl, h14⟩ := uncons h13
  obtain ⟨q, l15, rfl, h15⟩ := uncons h14
  obtain ⟨p5, l16, rfl, h16⟩ := uncons h15
  obtain ⟨i, l17, rfl, h17⟩ := uncons h16
  obtain ⟨j, l18, rfl, h18⟩ := uncons h17
  obtain ⟨p6, l19, rfl, h19⟩ := uncons h18
  obtain rfl := List.length_eq_zero_iff.1 h19
  exact ⟨y1, y2, y3, y4, p1, a, b, p2, c, d, p3, e, f, p4, g, q, p5, i, j, p6, rfl⟩
/-- A string with the pattern, taken apart. -/
theorem fits_open {l : List UInt8} (h : fitsL l = true) : ∃ y1 y2 y3 y4 a b c d e f g q i j : UInt8, l = [y1, y2, y3, y4, 45, a, b, 45, c, d, 84, e, f, 58, g, q, 58, i, j, 90] ∧ isd y1 = true ∧ isd y2 = true ∧ isd y3 = true ∧ isd y4 = true ∧ isd a = true ∧ isd b = true ∧ isd c = true ∧ isd d = true ∧ isd e = true ∧ isd f = true ∧ isd g = true ∧ isd q = true ∧ isd i = true ∧ isd j = true := by
  have hl : l.length = 20 := by
    unfold fitsL at h
    rw [Bool.and_eq_true] at h
    simpa using h.1
  obtain ⟨y1, y2, y3, y4, p1, a, b, p2, c, d, p3, e, f, p4, g, q, p5, i, j, p6, rfl⟩ := list20 hl
  simp [fitsL, pat, okB] at h
  obtain ⟨k1, k2, k3, k4, k5, k6, k7, k8, k9, k10, k11, k12, k13, k14, k15, k16, k17, k18, k19, k20⟩ := h
  subst k5 k8 k11 k14 k17 k20
  exact ⟨y1, y2, y3, y4, a, b, c, d, e, f, g, q, i, j, rfl, k1, k2, k3, k4, k6, k7, k9, k10, k12, k13, k15, k16, k18, k19⟩
theorem fits_four {l : List UInt8} (h : fitsL l = true) : ∃ c, Reads l c := by
  obtain ⟨y1, y2, y3, y4, a, b, c, d, e, f, g, q, i, j, rfl, hy1, hy2, hy3, hy4, ha, hb, hc, hd, he, hf, hg, hq, hi, hj⟩ := fits_open h
  exact ⟨_, .four _ _ _ _ _ _ _ _ _ _ _ _ _ _ hy1 hy2 hy3 hy4 ha hb hc hd he hf hg hq hi hj⟩
theorem fits_five {x : UInt8} {l : List UInt8} (hx : isd x = true) (hn : x ≠ 48) (h : fitsL l = true) : ∃ c, Reads (x :: l) c := by
  obtain ⟨y1, y2, y3, y4, a, b, c, d, e, f, g, q, i, j, rfl, hy1, hy2, hy3, hy4, ha, hb, hc, hd, he, hf, hg, hq, hi, hj⟩ := fits_open h
  exact ⟨_, .five _ _ _ _ _ _ _ _ _ _ _ _ _ _ _ hx hn hy1 hy2 hy3 hy4 ha hb hc hd he hf hg hq hi hj⟩
theorem Reads.fits {l : List UInt8} {c : Cal} (h : Reads l c) : fitsL l = true ∨ ∃ x r, l = x :: r ∧ isd x = true ∧ x ≠ 48 ∧ fitsL r = true := by
  cases h with
  | four y1 y2 y3 y4 a b c d e f g q i j hy1 hy2 hy3 hy4 ha hb hc hd he hf hg hq hi hj => left; simp [fitsL, pat, okB, *]
  | five y0 y1 y2 y3 y4 a b c d e f g q i j h0 hn hy1 hy2 hy3 hy4 ha hb hc hd he hf hg hq hi hj => right; exact ⟨y0, _, rfl, h0, hn, by simp [fitsL, pat, okB, *]⟩
theorem Reads.len {l : List UInt8} {c : Cal} (h : Reads l c) : l.length = 20 ∨ l.length = 21 := by
  cases h <;> simp
theorem str_of {s : ByteArray} {l : List UInt8} (h : s.data.toList = l) : s = ⟨l.toArray⟩ := by
  subst h
  simp
theorem number_at (s : ByteArray) (i j : Nat) (l : List UInt8) (N : Nat) (h : (s.extract i j).data.toList = l) (hd : l.all isd = true) (hl : l.length ≤ 5) (hN : num l = N) (w : World) :
    Calls Tryd.prog 39 #[.string (s.extract i j)] w fun e w' => e = .returned (.int .i64 (N : Int)) ∧ w' = w := by
  subst hN
  subst h
  exact number_any _ hd hl w
theorem num2_lt {a b : UInt8} (ha : isd a = true) (hb : isd b = true) : num [a, b] < 100 := by
  have h1 := dv_le ha
  have h2 := dv_le hb
  simp only [num, List.foldl_cons, List.foldl_nil]
  omega
theorem num4_lt {a b c d : UInt8} (ha : isd a = true) (hb : isd b = true) (hc : isd c = true) (hd : isd d = true) : num [a, b, c, d] < 10000 := by
  have h1 := dv_le ha
  have h2 := dv_le hb
  have h3 := dv_le hc
  have h4 := dv_le hd
  simp only [num, List.foldl_cons, List.foldl_nil]
  omega
theorem num5_eq (z a b c d : UInt8) : num [z, a, b, c, d] = 10000 * dv z + num [a, b, c, d] := by
  simp only [num, List.foldl_cons, List.foldl_nil]
  omega
/-- What Parse returns. -/
def ParsedBy (l : List UInt8) (w : World) (e : Ending) (w' : World) : Prop := ∃ n k, Parsed l n k ∧ e = .returned (.tuple #[.int .i64 n, .int .i64 k]) ∧ Kept [] w w'
theorem bf_bd {y : Nat} (h : y < 100000) : bf y - bf 1970 ≤ 36600000 := by
  have := bf_mono (Nat.le_of_lt h)
  have : bf 100000 = 36524250 := by decide
  omega
theorem mb_bd (y m : Nat) (h1 : 1 ≤ m) (h2 : m ≤ 12) : mb y m ≤ 366 := by
  have := mb_mono y h1 (show m ≤ 13 by omega) (by omega)
  rw [mb_year] at this
  have := yd_bd y
  omega
/-- A valid instant. -/
theorem valid_at (n : Nat) : valid (n : Int) = decide (n ≤ 1099511627776) := by
  unfold valid lim
  rw [Bool.eq_iff_iff]
  simp
  omega
theorem valid_of (n : Nat) (x : Int) (hx : x = (n : Int)) (w : World) :
    Calls Tryd.prog 9 #[.int .i64 x] w fun e w' => e = .returned (.bool (decide (n ≤ 1099511627776))) ∧ w = w' := by
  subst hx
  rw [← valid_at]
  exact valid_any _ w
theorem fits_at (s : ByteArray) (i j : Nat) (l : List UInt8) (b : Bool) (h : (s.extract i j).data.toList = l) (hb : fitsL l = b) (w : World) :
    Calls Tryd.prog 38 #[.string (s.extract i j)] w fun e w' => e = .returned (.bool b) ∧ Kept [] w w' := by
  subst hb
  subst h
  exact fits_any _ w
end Go.Proofs.YtjjmcmchcmfgnaaDoor

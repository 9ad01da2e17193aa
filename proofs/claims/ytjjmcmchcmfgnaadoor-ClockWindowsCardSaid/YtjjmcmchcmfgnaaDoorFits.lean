/- Contracts: fits, number, before; digits of the reference. -/
import Derived.Test.YtjjmcmchcmfgnaaDoorYear
import Derived.Laws.RangeAny
namespace Go.Proofs.YtjjmcmchcmfgnaaDoor
open Go.RowKit

/-- The pattern of a calendar form. -/
def pat : List UInt8 := [100, 100, 100, 100, 45, 100, 100, 45, 100, 100, 84, 100, 100, 58, 100, 100, 58, 100, 100, 90]
def okB (p c : UInt8) : Bool := if p = 100 then isd c else c == p
/-- A string has the pattern. -/
def fitsL (l : List UInt8) : Bool := l.length == 20 && (l.zip pat).all (fun x => okB x.2 x.1)
theorem pat_len : pat.length = 20 := rfl
theorem fits_iff {l : List UInt8} (hl : l.length = 20) : fitsL l = true ↔ ∀ k (h : k < l.length) (h2 : k < pat.length), okB pat[k] l[k] = true := by
  unfold fitsL
  rw [show (l.length == 20) = true by simp [hl], Bool.true_and, List.all_eq_true]
  constructor
  · intro h k hk hk2
    refine h (l[k], pat[k]) ?_
    rw [List.mem_iff_getElem]
    exact ⟨k, by rw [List.length_zip]; exact Nat.lt_min.2 ⟨hk, hk2⟩, by simp⟩
  · intro h x hx
    obtain ⟨k, hk, rfl⟩ := List.mem_iff_getElem.1 hx
    rw [List.length_zip] at hk
    have := h k (Nat.lt_of_lt_of_le hk (Nat.min_le_left _ _)) (Nat.lt_of_lt_of_le hk (Nat.min_le_right _ _))
    simpa using this
theorem pat_small {k : Nat} (h : k < pat.length) : (pat[k]).toNat < 128 := by
  have h1 : pat.all (fun x => decide (x.toNat < 128)) = true := by decide
  simpa using List.all_eq_true.1 h1 pat[k] (List.getElem_mem _)
/-- What a rune tells of its byte. -/
theorem rune_of (s : ByteArray) (k : Nat) (h : k < s.size) : ∃ (r d : Nat), (Utf8.decode s k).1 = r ∧ (Utf8.decode s k).2 = d ∧ ((r = s[k].toNat ∧ d = 1 ∧ r < 128) ∨ (128 ≤ r ∧ 128 ≤ s[k].toNat)) ∧ r ≤ 2147483647 := by
  refine ⟨_, _, rfl, rfl, ?_, decode_le s k⟩
  rcases Nat.lt_or_ge s[k].toNat 128 with h1 | h1
  · rw [decode_ascii s k h h1]; exact .inl ⟨rfl, rfl, h1⟩
  · exact .inr ⟨(decode_high s k h h1).1, h1⟩
theorem okB_d {p c : UInt8} {r : Nat} (hp : p.toNat = 100) (hr : (r = c.toNat ∧ r < 128) ∨ (128 ≤ r ∧ 128 ≤ c.toNat)) : okB p c = (decide (48 ≤ r) && decide (r ≤ 57)) := by
  have : p = 100 := UInt8.toNat_inj.1 hp
  unfold okB isd
  rw [if_pos this, Bool.eq_iff_iff]
  simp
  omega
theorem okB_c {p c : UInt8} {r : Nat} (hp : p.toNat ≠ 100) (hq : p.toNat < 128) (hr : (r = c.toNat ∧ r < 128) ∨ (128 ≤ r ∧ 128 ≤ c.toNat)) : okB p c = decide (r = p.toNat) := by
  have : ¬ p = 100 := fun e => hp (by rw [e]; rfl)
  unfold okB
  rw [if_neg this, Bool.eq_iff_iff]
  simp only [beq_iff_eq, decide_eq_true_eq]
  rw [← UInt8.toNat_inj]
  omega
theorem list_get (s : ByteArray) (k : Nat) (h : k < s.size) (h2 : k < s.data.toList.length) : s.data.toList[k]'h2 = s[k]'h := by simp; rfl
def FitTo (s : ByteArray) (k : Nat) : Prop := ∀ j (h : j < s.data.toList.length) (h2 : j < pat.length), j < k → okB pat[j] s.data.toList[j] = true
theorem FitTo.next {s : ByteArray} {k : Nat} (h : FitTo s k) (hk : k < s.size) (h2 : k < pat.length) (ho : okB pat[k] s[k] = true) : FitTo s (k + 1) := by
  intro j hj hj2 hlt
  rcases Nat.lt_or_eq_of_le (Nat.le_of_lt_succ hlt) with h1 | rfl
  · exact h j hj hj2 h1
  · rw [list_get s j hk hj]; exact ho
theorem FitTo.no {s : ByteArray} {k : Nat} (hl : s.data.toList.length = 20) (hk : k < s.size) (h2 : k < pat.length) (ho : okB pat[k] s[k] = false) : fitsL s.data.toList = false := by
  cases h : fitsL s.data.toList
  · rfl
  · have := (fits_iff hl).1 h k hk h2
    rw [list_get s k hk hk, ho] at this
    cases this
set_option maxHeartbeats 4000000 in
theorem fits_any (s : ByteArray) (w : World) :
    Calls Tryd.prog 38 #[.string s] w fun e w' => e = .returned (.bool (fitsL s.data.toList)) ∧ Kept [] w w' := by
  by_cases hl : s.size = 20
  · have hl2 := hid (show s.data.toList.length = 20 from hl)
    obtain ⟨b, hb⟩ : ∃ b, Hid (fitsL s.data.toList = b) := ⟨_, hid rfl⟩
    rw [hb.out]
    have hkp := hid (fun k => (Kept.refl [] w).alloc (.stringIter s k))
    go_enter Tryd.func38, Tryd.ntmps38
    go_wp2
    go_loopw [3] (fun _ wr => ∃ k : Nat, wr = w.iter s k ∧ k ≤ 20 ∧ Hid (FitTo s k)) (fun _ wr => 20 - wr.iterPos w.heap.size)
    case atStart => exact ⟨0, rfl, Nat.zero_le _, hid (fun j _ _ h => by omega)⟩
    case round =>
      obtain ⟨k, rfl, hk, hI⟩ := hrel
      by_cases hlt : k < 20
      · have hp : k < s.size := by omega
        have hp2 : k < pat.length := hlt
        have hnx : ∀ ty, (Instr.next (.pointer (some ⟨w.heap.size, 0, none⟩)) true ty).run Tryd.prog (w.iter s k) = _ := fun ty => run_next_any w s k ty hp
        obtain ⟨r, d, e1, e2, hr, hr2⟩ := rune_of s k hp
        rw [e1, e2] at hnx
        clear e1 e2
        have hq := pat_small hp2
        obtain ⟨q, hqe⟩ : ∃ q : Nat, pat[k].toNat = q := ⟨_, rfl⟩
        rw [hqe] at hq
        have hpk : ∀ h, wrap32 (((⟨#[100, 100, 100, 100, 45, 100, 100, 45, 100, 100, 84, 100, 100, 58, 100, 100, 58, 100, 100, 90]⟩ : ByteArray)[k]'h).toNat : Int) = (q : Int) := fun h => by
          rw [show ((⟨#[100, 100, 100, 100, 45, 100, 100, 45, 100, 100, 84, 100, 100, 58, 100, 100, 58, 100, 100, 90]⟩ : ByteArray)[k]'h) = pat[k]'hp2 from rfl, hqe]
          unfold wrap32; omega
        by_cases h100 : q = 100
        · have hO := hid (okB_d (c := s[k]) (r := r) (hqe.trans h100) (by omega))
          by_cases hd : 48 ≤ r ∧ r ≤ 57
          · have hd1 : d = 1 := by omega
            have hN := hid (hI.out.next hp hp2 (by rw [hO.out]; simp; omega))
            obtain ⟨hd2, hd3⟩ := hd
            clear hr hO hqe
            subst hd1
            subst h100
            go_wp2_with fail
            go_roundw
            case rel => exact ⟨k + 1, rfl, by omega, hN⟩
            case measure => simp; omega
          · obtain rfl : b = false := by rw [← hb.out]; exact FitTo.no hl2.out hp hp2 (by rw [hO.out]; simp; omega)
            clear hr hO hqe
            subst h100
            rcases (show r < 48 ∨ 57 < r by omega) with hd | hd
            · go_wp2_with fail
              go_ret
              exact ⟨rfl, hkp.out _⟩
            · go_wp2_with fail
              go_ret
              exact ⟨rfl, hkp.out _⟩
        · have hO := hid (okB_c (p := pat[k]) (c := s[k]) (r := r) (by omega) (by omega) (by omega))
          by_cases hd : r = q
          · have hd1 : d = 1 := by omega
            have hN := hid (hI.out.next hp hp2 (by rw [hO.out]; simp; omega))
            clear hr hO hqe
            subst hd1
            subst hd
            have hb1 : ((r : Int) != 100) = true := by simp; omega
            go_wp2_with fail
            go_roundw
            case rel => exact ⟨k + 1, rfl, by omega, hN⟩
            case measure => simp; omega
          · obtain rfl : b = false := by rw [← hb.out]; exact FitTo.no hl2.out hp hp2 (by rw [hO.out]; simp; omega)
            clear hr hO hqe
            have hb1 : ((q : Int) != 100) = true := by simp; omega
            have hb2 : ((r : Int) != (q : Int)) = true := by simp; omega
            go_wp2_with fail
            go_ret
            exact ⟨rfl, hkp.out _⟩
      · obtain rfl : k = 20 := by omega
        obtain rfl : b = true := by
          rw [← hb.out]
          exact (fits_iff hl2.out).2 fun j hj hj2 => hI.out j hj hj2 (by rw [hl2.out] at hj; exact hj)
        have hnx : ∀ ty, (Instr.next (.pointer (some ⟨w.heap.size, 0, none⟩)) true ty).run Tryd.prog (w.iter s 20) = _ := fun ty => run_next_end w s 20 ty (by omega)
        go_wp2_with fail
        go_ret
        exact ⟨rfl, hkp.out _⟩
  · have hE := hid (show fitsL s.data.toList = false by
      unfold fitsL
      rw [show (s.data.toList.length == 20) = false by simpa using hl]; rfl)
    rw [hE.out]
    go_enter Tryd.func38, Tryd.ntmps38
    go_wp2
    go_ret
    exact ⟨rfl, Kept.refl _ _⟩
end Go.Proofs.YtjjmcmchcmfgnaaDoor

/- Proofs in memory; has, count, Level. -/
import Derived.Test.YtmipnhdfhgekkaaBase
namespace Go.Proofs.Ytmipnhdfhgekkaa
open Go.RowKit

abbrev Prf := Int × Int
abbrev prfV (p : Prf) : Value := .agg #[.int .i64 p.1, .int .i64 p.2]
def CPrf (w : World) (b o : Nat) (p : Prf) : Prop := w.cell? ⟨b, o, none⟩ = some (.int .i64 p.1) ∧ w.cell? ⟨b, o + 1, none⟩ = some (.int .i64 p.2)
theorem CPrf.lasts : Lasts CPrf := by
  intro S w w' b o x h k hb hS
  exact ⟨by rw [k.cell hb hS]; exact h.1, by rw [k.cell hb hS]; exact h.2⟩
abbrev PrfsAt (w : World) (a : Option Addr) (l : List Prf) : Prop := SeqAt 2 CPrf w a l
theorem PrfsAt.kept {w w' : World} {a : Option Addr} {l : List Prf} (h : PrfsAt w a l) (k : Kept [] w w') : PrfsAt w' a l := SeqAt.kept h CPrf.lasts k (by simp)

/-- Where the first element stands that meets p; -1 if none. -/
def idx {α : Type} (p : α → Bool) (l : List α) : Int := match l.findIdx? p with | some i => i | none => -1
def NoneTo {α : Type} (p : α → Bool) (l : List α) (k : Nat) : Prop := ∀ j (_ : j < k) (h : j < l.length), p l[j] = false
theorem NoneTo.next {α : Type} {p : α → Bool} {l : List α} {k : Nat} (h : NoneTo p l k) (hk : k < l.length) (hx : p l[k] = false) : NoneTo p l (k + 1) := by
  intro j hj hjl
  by_cases e : j = k
  · subst e; exact hx
  · exact h j (by omega) hjl
theorem idx_yes {α : Type} {p : α → Bool} {l : List α} {k : Nat} (h : NoneTo p l k) (hk : k < l.length) (hx : p l[k] = true) : idx p l = k := by
  unfold idx
  have : l.findIdx? p = some k := by
    rw [List.findIdx?_eq_some_iff_getElem]
    exact ⟨hk, hx, fun j hj => by simpa using h j hj (by omega)⟩
  rw [this]
theorem NoneTo.all {α : Type} {p : α → Bool} {l : List α} {k : Nat} (h : NoneTo p l k) (hk : l.length ≤ k) : ∀ x ∈ l, p x = false := by
  intro x hx
  obtain ⟨j, hj, rfl⟩ := List.getElem_of_mem hx
  exact h j (by omega) hj
theorem idx_no {α : Type} {p : α → Bool} {l : List α} (h : ∀ x ∈ l, p x = false) : idx p l = -1 := by
  unfold idx
  rw [List.findIdx?_eq_none_iff.2 (fun x hx => by simpa using h x hx)]
theorem idx_ge {α : Type} {p : α → Bool} {l : List α} : decide (0 ≤ idx p l) = l.any p := by
  unfold idx
  cases h : l.findIdx? p with
  | some i =>
    obtain ⟨hi, h1, _⟩ := List.findIdx?_eq_some_iff_getElem.1 h
    rw [show l.any p = true from List.any_eq_true.2 ⟨l[i], List.getElem_mem _, h1⟩]
    simp
  | none =>
    rw [List.findIdx?_eq_none_iff] at h
    rw [show l.any p = false from List.any_eq_false.2 (fun x hx => by simpa using h x hx)]
    rfl

set_option maxHeartbeats 400000 in
theorem indexFunc_has (cv : Value) (pred : Prf → Bool) (I : World → Prop) (hI : ∀ w w', I w → Kept [] w w' → I w')
    (hcl : ∀ p w, I w → Calls Try.prog 41 #[prfV p, cv] w fun e w' => e = .returned (.bool (pred p)) ∧ Kept [] w w') {w : World} {a : Option Addr} {cap : Nat} {l : List Prf} (h : PrfsAt w a l) (hw : I w) :
    Calls Try.prog 43 #[.slice a l.length cap, .func (.func 41) #[] #[cv]] w fun e w' => e = .returned (.int .i64 (idx pred l)) ∧ Kept [] w w' := by
  have hf := h.few
  unfold maxLen at hf
  have HI := hid hI
  have HC := hid hcl
  clear hI hcl
  go_enter Try.func43, Try.ntmps43
  go_wp2_with fail
  go_loopw [5, 8] (fun _ i wr => ∃ k : Nat, k ≤ l.length ∧ i = .int .i64 k ∧ NoneTo pred l k ∧ Kept [] w wr) (fun _ i _ => l.length - (intOf i).toNat)
  case atStart => exact ⟨0, Nat.zero_le _, rfl, fun j hj => by omega, Kept.refl _ _⟩
  case round =>
    obtain ⟨k, hk, rfl, hn, hkw⟩ := hrel
    by_cases hlt : k < l.length
    · obtain ⟨b, off, rfl, hb, hc0, hc1⟩ := (h.kept hkw).at hlt
      have hb1 : (0 : Int) ≤ k := by omega
      have hb2 : (k : Int) < l.length := by omega
      have hiw := HI.out _ _ hw hkw
      cases hp : pred l[k]
      · have HP := hid hp
        have HQ := hid (HC.out l[k] wr hiw)
        rw [hp] at HQ
        go_wp2_with (go_at_call 41; refine HQ.out.mono ?_; rintro e w1 ⟨rfl, hk1⟩)
        go_roundw
        case rel => exact ⟨k + 1, by omega, by go_num, hn.next hlt HP.out, hkw.step hk1 (by simp)⟩
        case measure => simp [intOf]; omega
      · have HP := hid hp
        have HQ := hid (HC.out l[k] wr hiw)
        rw [hp] at HQ
        go_wp2_with (go_at_call 41; refine HQ.out.mono ?_; rintro e w1 ⟨rfl, hk1⟩)
        go_ret
        exact ⟨ret_int (by rw [idx_yes hn hlt HP.out]), hkw.step hk1 (by simp)⟩
    · have hx := hid (idx_no (hn.all (by omega)))
      go_wp2_with fail
      go_ret
      exact ⟨ret_int hx.out.symm, hkw⟩

set_option maxHeartbeats 400000 in
theorem indexFunc_add (cv : Value) (pred : Prf → Bool) (I : World → Prop) (hI : ∀ w w', I w → Kept [] w w' → I w')
    (hcl : ∀ p w, I w → Calls Try.prog 38 #[prfV p, cv] w fun e w' => e = .returned (.bool (pred p)) ∧ Kept [] w w') {w : World} {a : Option Addr} {cap : Nat} {l : List Prf} (h : PrfsAt w a l) (hw : I w) :
    Calls Try.prog 43 #[.slice a l.length cap, .func (.func 38) #[] #[cv]] w fun e w' => e = .returned (.int .i64 (idx pred l)) ∧ Kept [] w w' := by
  have hf := h.few
  unfold maxLen at hf
  have HI := hid hI
  have HC := hid hcl
  clear hI hcl
  go_enter Try.func43, Try.ntmps43
  go_wp2_with fail
  go_loopw [5, 8] (fun _ i wr => ∃ k : Nat, k ≤ l.length ∧ i = .int .i64 k ∧ NoneTo pred l k ∧ Kept [] w wr) (fun _ i _ => l.length - (intOf i).toNat)
  case atStart => exact ⟨0, Nat.zero_le _, rfl, fun j hj => by omega, Kept.refl _ _⟩
  case round =>
    obtain ⟨k, hk, rfl, hn, hkw⟩ := hrel
    by_cases hlt : k < l.length
    · obtain ⟨b, off, rfl, hb, hc0, hc1⟩ := (h.kept hkw).at hlt
      have hb1 : (0 : Int) ≤ k := by omega
      have hb2 : (k : Int) < l.length := by omega
      have hiw := HI.out _ _ hw hkw
      cases hp : pred l[k]
      · have HP := hid hp
        have HQ := hid (HC.out l[k] wr hiw)
        rw [hp] at HQ
        go_wp2_with (go_at_call 38; refine HQ.out.mono ?_; rintro e w1 ⟨rfl, hk1⟩)
        go_roundw
        case rel => exact ⟨k + 1, by omega, by go_num, hn.next hlt HP.out, hkw.step hk1 (by simp)⟩
        case measure => simp [intOf]; omega
      · have HP := hid hp
        have HQ := hid (HC.out l[k] wr hiw)
        rw [hp] at HQ
        go_wp2_with (go_at_call 38; refine HQ.out.mono ?_; rintro e w1 ⟨rfl, hk1⟩)
        go_ret
        exact ⟨ret_int (by rw [idx_yes hn hlt HP.out]), hkw.step hk1 (by simp)⟩
    · have hx := hid (idx_no (hn.all (by omega)))
      go_wp2_with fail
      go_ret
      exact ⟨ret_int hx.out.symm, hkw⟩
end Go.Proofs.Ytmipnhdfhgekkaa

/- Contracts: slices.Clone, slices.IndexFunc, slices.DeleteFunc over windows. -/
import Derived.Test.YtjjmcmchcmfgnaaDoorRow
import Derived.Test.YtjjmcmchcmfgnaaDoorFind
import Derived.Test.YtjjmcmchcmfgnaaDoorWin
namespace Go.Proofs.YtjjmcmchcmfgnaaDoor
open Go.RowKit

def encW (x : Win) : List Value := [.int .i64 x.1, .int .i64 x.2]
theorem encWOk : Enc Tryd.prog 27 2 16 encW :=
  ⟨fun _ => rfl, fun x v hv => by simp [encW] at hv; rcases hv with rfl | rfl <;> rfl, by omega, by omega, by
    obtain ⟨i0, hi, h1, h2, h3⟩ := info_parts (show (Tryd.prog.info? 27).map (fun i => (i.zero, i.size, i.bytes)) = some (some (.agg #[.int .i64 0, .int .i64 0]), 2, 16) by kernel_rfl)
    exact ⟨i0, _, hi, h1, h2, h3, rfl⟩⟩
abbrev WinsAt (w : World) (a : Option Addr) (l : List Win) : Prop := ListAt 2 encW w a l
abbrev OwnW (w0 w : World) (a : Option Addr) (cap : Nat) (l : List Win) : Prop := OwnL 27 2 encW w0 w a cap l
theorem WinsAt.get {w : World} {a : Option Addr} {l : List Win} (h : WinsAt w a l) {i : Nat} (hi : i < l.length) : ∃ b off, a = some ⟨b, off, none⟩ ∧ b < w.heap.size ∧ w.cell? ⟨b, off + i * 2, none⟩ = some (.int .i64 l[i].1) ∧ w.cell? ⟨b, off + i * 2 + 1, none⟩ = some (.int .i64 l[i].2) := by
  obtain ⟨b, off, e, hb, hc⟩ := h.at hi
  exact ⟨b, off, e, hb, hc 0 _ rfl, hc 1 _ rfl⟩
theorem rowW_get (l : List Win) (i : Nat) (h : i < l.length) : (rowV encW l)[i * 2]? = some (.int .i64 l[i].1) ∧ (rowV encW l)[i * 2 + 1]? = some (.int .i64 l[i].2) :=
  ⟨rowV_get encWOk l i 0 h (by omega), rowV_get encWOk l i 1 h (by omega)⟩
theorem rowW_set : ∀ (l : List Win) (i : Nat) (_ : i < l.length) (p : Win), rowV encW (l.set i p) = ((rowV encW l).set (i * 2) (.int .i64 p.1)).set (i * 2 + 1) (.int .i64 p.2)
  | [], _, h, _ => by simp at h
  | x :: l, 0, _, p => by simp [rowV, encW]
  | x :: l, i + 1, h, p => by
    have ih := rowW_set l i (by simpa using h) p
    show encW x ++ rowV encW (l.set i p) = _
    rw [ih, show (i + 1) * 2 = i * 2 + 2 by omega, show i * 2 + 2 + 1 = i * 2 + 1 + 2 by omega]
    rfl
/-- An empty window. -/
def voidB (x : Win) : Bool := decide (x.2 ≤ x.1)
theorem delP_void (l : List Win) : delP voidB l = full l := by
  unfold delP full
  congr 1
  funext x
  unfold voidB
  rw [Bool.eq_iff_iff]
  simp
set_option maxHeartbeats 400000 in
theorem union1_any (x : Win) (w : World) :
    Calls Tryd.prog 33 #[.agg #[.int .i64 x.1, .int .i64 x.2]] w fun e w' => e = .returned (.bool (voidB x)) ∧ Kept [] w w' := by
  go_enter Tryd.func33, Tryd.ntmps33
  go_wp2
  go_ret
  exact ⟨rfl, (Kept.refl [] w).alloc _⟩
set_option maxHeartbeats 400000 in
theorem clone_any {w : World} {a : Option Addr} {cap : Nat} {l : List Win} (h : WinsAt w a l) (hlen : l.length ≤ 100000) :
    Calls Tryd.prog 32 #[.slice a l.length cap] w fun e w' => ∃ a' cap', e = .returned (.slice a' l.length cap') ∧ OwnW w w' a' cap' l := by
  have hq : ∀ (w : World) (a : Option Addr) (n c : Nat), (binOp .eql 32 (.slice a n c) (.slice none 0 0)).run Tryd.prog w = .ok (.bool a.isNone) w := fun w a n c => Lib.run_eql_slice_nil w _ _ a n c 0 0 Tryd.underlying32
  cases a with
  | none =>
    have hl0 : l = [] := by
      rcases h.cells with h0 | ⟨b, off, e, _⟩
      · exact h0
      · cases e
    subst hl0
    go_enter Tryd.func32, Tryd.ntmps32
    go_wp2_with fail
    go_ret
    exact ⟨none, 0, rfl, OwnL.start w⟩
  | some ad =>
    have hd := h.keptN ((Kept.refl [] w).alloc (.cells #[] 27 (0, 0)))
    obtain ⟨L, HL⟩ : ∃ L, Hid (L = [] ++ l) := ⟨_, hid rfl⟩
    go_enter Tryd.func32, Tryd.ntmps32
    go_wp2_with (at_builtin; refine wp_appL encWOk Tryd.underlying32 HL.out (OwnL.made w) hd (by simp; omega) rfl _ _ rfl rfl rfl rfl rfl ?_; intro a' cap' w' ho hk hfp)
    go_ret
    have e := HL.out
    rw [List.nil_append] at e
    subst e
    exact ⟨a', cap', rfl, ho⟩
set_option maxHeartbeats 1000000 in
theorem indexFunc_any {w : World} {a : Option Addr} {cap : Nat} {l : List Win} (h : WinsAt w a l) :
    Calls Tryd.prog 49 #[.slice a l.length cap, .func (.func 33) #[] #[]] w fun e w' => e = .returned (.int .i64 (idx voidB l)) ∧ Kept [] w w' := by
  have hf := h.few
  unfold maxLen at hf
  go_enter Tryd.func49, Tryd.ntmps49
  go_wp2_with fail
  go_loopw [5, 8] (fun _ i wr => ∃ k : Nat, k ≤ l.length ∧ i = .int .i64 k ∧ NoneTo voidB l k ∧ Kept [] w wr) (fun _ i _ => l.length - (intOf i).toNat)
  case atStart => exact ⟨0, Nat.zero_le _, rfl, NoneTo.zero _ _, Kept.refl _ _⟩
  case round =>
    obtain ⟨k, hk, rfl, hn, hw⟩ := hrel
    by_cases hlt : k < l.length
    · obtain ⟨b, off, rfl, hb, hc0, hc1⟩ := WinsAt.get (SeqAt.kept h CEnc.lasts hw (by simp)) hlt
      have hb1 : (0 : Int) ≤ k := by omega
      have hb2 : (k : Int) < l.length := by omega
      have HC := hid (union1_any l[k])
      cases hp : voidB l[k]
      · have HP := hid hp
        rw [hp] at HC
        clear hp
        go_wp2_with (go_at_call 33; refine (HC.out _).mono ?_; rintro e w1 ⟨rfl, h1⟩; replace hw := Kept.step hw h1 (by simp); clear h1)
        go_roundw
        case rel => exact ⟨k + 1, by omega, by go_num, hn.next hlt HP.out, hw⟩
        case measure => simp [intOf]; omega
      · have HP := hid hp
        rw [hp] at HC
        clear hp
        go_wp2_with (go_at_call 33; refine (HC.out _).mono ?_; rintro e w1 ⟨rfl, h1⟩; replace hw := Kept.step hw h1 (by simp); clear h1)
        go_ret
        exact ⟨ret_int (by rw [idx_yes hn hlt HP.out]), hw⟩
    · have hx := hid (idx_no (hn.all (by omega)))
      go_wp2_with fail
      go_ret
      exact ⟨ret_int hx.out.symm, hw⟩
end Go.Proofs.YtjjmcmchcmfgnaaDoor

/- Meets, Needed, of both; Same; proof; many. -/
import Derived.Test.YtmipnhdfhgekkaaAdd
namespace Go.Proofs.Ytmipnhdfhgekkaa
open Go.RowKit

def meetsB (l : List Prf) (level age now : Int) : Bool := decide (level ≤ levelL (freshL l now age))
set_option maxHeartbeats 400000 in
theorem meets_any {w : World} {a : Option Addr} {cap : Nat} {l : List Prf} (h : PrfsAt w a l) (hlen : l.length ≤ 1000) (level age now : Int) :
    Calls Try.prog 18 #[.slice a l.length cap, .int .i64 level, .int .i64 age, .int .i64 now] w fun e w' => e = .returned (.bool (meetsB l level age now)) ∧ Kept [] w w' := by
  go_enter Try.func18, Try.ntmps18
  go_wp2_with (first
    | (go_at_call 16; refine (fresh_any h now age hlen).mono ?_; rintro e w1 ⟨a1, cap1, rfl, ho1⟩)
    | (go_at_call 11; refine (level_any ho1.seq).mono ?_; rintro e w2 ⟨rfl, hk2⟩))
  go_ret
  exact ⟨rfl, ho1.kept.step hk2 (by simp)⟩
set_option maxHeartbeats 400000 in
theorem rmeets_any {w : World} {a : Option Addr} {cap : Nat} {l : List Prf} (h : PrfsAt w a l) (hlen : l.length ≤ 1000) (level age now : Int) :
    Calls Try.prog 19 #[.slice a l.length cap, .int .i64 level, .int .i64 age, .int .i64 now] w fun e w' => e = .returned (.bool (meetsB l level age now)) ∧ Kept [] w w' := by
  go_enter Try.func19, Try.ntmps19
  go_wp2_with (first
    | (go_at_call 17; refine (rfresh_any h now age hlen).mono ?_; rintro e w1 ⟨a1, cap1, rfl, ho1⟩)
    | (go_at_call 12; refine (rlevel_any ho1.seq).mono ?_; rintro e w2 ⟨rfl, rfl⟩))
  go_ret
  exact ⟨rfl, ho1.kept⟩

/-! ### lists of factors that the call has made -/
def intsV (l : List Int) : List Value := l.map (Value.int .i64)
theorem int_one (n : Int) : ∀ u ∈ [Value.int .i64 n], u.oneCell' = true := by intro u hu; simp at hu; subst hu; rfl
theorem infoFac : (Try.prog.info? 34).map (fun i => (i.zero, i.size, i.bytes)) = some (some (.int .i64 0), 1, 8) := by kernel_rfl
structure OwnF (w0 w : World) (a : Option Addr) (cap : Nat) (l : List Int) : Prop where
  row : w.ownsRow 0 34 1 (.slice a l.length cap) l.length (intsV l)
  kept : Kept [] w0 w
  new : ∀ i ∈ fp a, w0.heap.size ≤ i
theorem OwnF.start (w : World) : OwnF w w none 0 [] := ⟨World.ownsRow_nil _ _ _ _, Kept.refl _ _, by simp [fp]⟩
theorem OwnF.later {w0 w w' : World} {a : Option Addr} {cap : Nat} {l : List Int} (h : OwnF w0 w a cap l) (k : Kept [] w w') : OwnF w0 w' a cap l := ⟨row_kept h.row k (by simp), h.kept.step k (by simp), h.new⟩
theorem OwnF.push {w0 w w1 w2 : World} {a : Option Addr} {cap g cap2 : Nat} {l : List Int} {n : Int} (h : OwnF w0 w a cap l) (k : Kept [] w w1)
    (hown : w2.ownsRow 0 34 1 (.slice (some ⟨g, 0, none⟩) (l.length + 1) cap2) (l.length + 1) (intsV l ++ [.int .i64 n]))
    (hg : w1.grownBy w2 (Value.slice a l.length cap).ownBlock) (hat : (Value.slice a l.length cap).ownBlock = some g ∨ g = w1.heap.size) : OwnF w0 w2 (some ⟨g, 0, none⟩) cap2 (l ++ [n]) := by
  refine ⟨by rw [List.length_append]; simpa [intsV] using hown, (h.kept.step k (by simp)).grown hg (fun i hi => .inr (h.new i (ownBlock_mem hi))), fun i hi => ?_⟩
  simp only [fp, List.mem_singleton] at hi
  subst hi
  rcases hat with hat | hat
  · exact h.new _ (ownBlock_mem hat)
  · have := h.kept.size; have := k.size; omega
theorem OwnF.rebase {w0 w1 w : World} {a : Option Addr} {cap : Nat} {l : List Int} (h : OwnF w1 w a cap l) (k : Kept [] w0 w1) : OwnF w0 w a cap l := ⟨h.row, k.step h.kept (by simp), fun i hi => Nat.le_trans k.size (h.new i hi)⟩
theorem OwnF.seq {w0 w : World} {a : Option Addr} {cap : Nat} {l : List Int} (h : OwnF w0 w a cap l) : IntsAt w a l := by
  rcases Nat.eq_zero_or_pos l.length with h0 | h0
  · exact ⟨.inl (List.length_eq_zero_iff.1 h0), by rw [h0]; exact Nat.zero_le _⟩
  · obtain ⟨g, cur, rfl, hg, h1, h2, _⟩ := row_some h.row h0
    refine ⟨.inr ⟨g, 0, rfl, lt_of_heap hg, fun i hi => ?_⟩, by omega⟩
    unfold CInt
    rw [Nat.zero_add, Nat.mul_one]
    exact row_cell h.row (by simp [intsV, hi])

/-! ### Needed -/
/-- The factors that are needed, out of the first k. -/
def needTo (l : List Prf) (n : Int) : Nat → List Int
  | 0 => []
  | k + 1 => if hasL l ((k : Int) + 1) = false ∧ ((needTo l n k).length : Int) < n then needTo l n k ++ [(k : Int) + 1] else needTo l n k
theorem needTo_le (l : List Prf) (n : Int) : ∀ k, (needTo l n k).length ≤ k
  | 0 => by simp [needTo]
  | k + 1 => by
    have := needTo_le l n k
    unfold needTo
    split
    · simp; omega
    · omega
def needE (level : Int) : Int := if level < 0 ∨ 3 < level then 27 else 0
def needL (l : List Prf) (level age now : Int) : List Int :=
  if level < 0 ∨ 3 < level then [] else if meetsB l level age now then [] else needTo (freshL l now age) (level - cntL (freshL l now age)) 3

set_option maxHeartbeats 1000000 in
set_option maxRecDepth 100000 in
theorem needed_any {w : World} {a : Option Addr} {cap : Nat} {l : List Prf} (h : PrfsAt w a l) (hlen : l.length ≤ 1000) (level age now : Int) :
    Calls Try.prog 20 #[.slice a l.length cap, .int .i64 level, .int .i64 age, .int .i64 now] w fun e w' => ∃ a' cap', e = .returned (.tuple #[.slice a' (needL l level age now).length cap', .int .i64 (needE level)]) ∧ OwnF w w' a' cap' (needL l level age now) := by
  by_cases h1 : level < 0
  · have E := hid (show needL l level age now = [] by simp [needL, h1])
    have E2 := hid (show needE level = 27 by simp [needE, h1])
    go_enter Try.func20, Try.ntmps20
    go_wp2_with fail
    go_ret2
    rw [E.out, E2.out]
    exact ⟨none, 0, rfl, OwnF.start w⟩
  by_cases h2 : 3 < level
  · have E := hid (show needL l level age now = [] by simp [needL, h2])
    have E2 := hid (show needE level = 27 by simp [needE, h2])
    go_enter Try.func20, Try.ntmps20
    go_wp2_with fail
    go_ret2
    rw [E.out, E2.out]
    exact ⟨none, 0, rfl, OwnF.start w⟩
  have E2 := hid (show needE level = 0 by simp [needE, h1, h2])
  have HM := hid (meets_any (cap := cap) h hlen level age now)
  cases hm : meetsB l level age now
  · have E := hid (show needL l level age now = needTo (freshL l now age) (level - cntL (freshL l now age)) 3 by simp [needL, h1, h2, hm])
    rw [hm] at HM
    clear hm
    obtain ⟨i0, hi, hz0, hz1, hz2⟩ := info_parts infoFac
    obtain ⟨cb1, cb2⟩ := cntL_bd (freshL l now age)
    go_enter Try.func20, Try.ntmps20
    go_wp2_with (first
      | (go_at_call 18; refine HM.out.mono ?_; rintro e w1 ⟨rfl, hk1⟩)
      | (go_at_call 16; refine (fresh_any (h.kept hk1) now age hlen).mono ?_; rintro e w2 ⟨a2, cap2, rfl, ho2⟩)
      | (go_at_call 30; refine (ordinary_any _).mono ?_; rintro e w3 ⟨rfl, hk3⟩))
    generalize freshL l now age = fl at *
    have hs2 := ho2.seq
    have hkw3 : Kept [] w w3 := (hk1.step ho2.kept (by simp)).step hk3 (by simp)
    go_loopw [11, 30] (fun v i wr => ∃ (k : Nat) (a' : Option Addr) (cap' : Nat), k ≤ 3 ∧ i = .int .i64 k ∧ v = .slice a' (needTo fl (level - cntL fl) k).length cap' ∧ OwnF w3 wr a' cap' (needTo fl (level - cntL fl) k)) (fun _ i _ => 3 - (intOf i).toNat)
    case atStart => exact ⟨0, none, 0, by omega, rfl, rfl, OwnF.start w3⟩
    case round =>
      obtain ⟨k, a', cap', hk, rfl, rfl, ho⟩ := hrel
      have hk3w := ho.kept
      by_cases hlt : k < 3
      · have hix := ord_index k hlt
        have hnl := needTo_le fl (level - cntL fl) k
        have hsw := hs2.kept (hk3.step hk3w (by simp))
        have HH := hid (has_any (f := (k : Int) + 1) (cap := cap2) hsw)
        have HC := hid (fun wq (hq : Kept [] wr wq) => count_any (cap := cap2) (hsw.kept hq))
        cases hp : hasL fl ((k : Int) + 1)
        · rw [hp] at HH
          by_cases hroom : ((needTo fl (level - cntL fl) k).length : Int) < level - cntL fl
          · have EN := hid (show needTo fl (level - cntL fl) (k + 1) = needTo fl (level - cntL fl) k ++ [(k : Int) + 1] by rw [needTo, if_pos ⟨hp, hroom⟩])
            clear hp
            go_wp2_with (first
              | (go_at_call 27; refine HH.out.mono ?_; rintro e w4 ⟨rfl, hk4⟩)
              | (go_at_call 26; refine (HC.out _ hk4).mono ?_; rintro e w5 ⟨rfl, hk5⟩; have ho5 := ho.later (hk4.step hk5 (by simp)))
              | (at_builtin; refine wpList_append_lies _ rfl _ _ _ rfl 0 34 i0 _ 1 8 Try.underlying30 hi hz0 hz1 hz2 rfl (by omega) _ _ _ rfl (ho5.row.alloc _) ⟨w5.heap.size, 0, none⟩ 1 1 [.int .i64 ((k : Int) + 1)] rfl rfl (cell_one_new _ _ _) (int_one _) (by omega) (by unfold maxLen; omega) (by omega) (Nat.zero_le _) (w5.heap.size + 1) (by simp) ?_; intro g2 cap3 w6 hown hgrow hat hlt2))
            go_roundw
            case rel =>
              refine ⟨k + 1, some ⟨g2, 0, none⟩, cap3, by omega, by go_num, by rw [EN.out]; simp, ?_⟩
              rw [EN.out]
              exact ho5.push ((Kept.refl [] w5).alloc _) hown hgrow (hat.imp id (fun e => by rw [e]; simp))
            case measure => simp [intOf]; omega
          · have EN := hid (show needTo fl (level - cntL fl) (k + 1) = needTo fl (level - cntL fl) k by rw [needTo, if_neg (fun h => hroom h.2)])
            clear hp
            go_wp2_with (first
              | (go_at_call 27; refine HH.out.mono ?_; rintro e w4 ⟨rfl, hk4⟩)
              | (go_at_call 26; refine (HC.out _ hk4).mono ?_; rintro e w5 ⟨rfl, hk5⟩))
            go_roundw
            case rel => exact ⟨k + 1, a', cap', by omega, by go_num, by rw [EN.out], by rw [EN.out]; exact ho.later (hk4.step hk5 (by simp))⟩
            case measure => simp [intOf]; omega
        · rw [hp] at HH
          have EN := hid (show needTo fl (level - cntL fl) (k + 1) = needTo fl (level - cntL fl) k by rw [needTo, if_neg (fun h => by simp [hp] at h)])
          clear hp
          go_wp2_with (go_at_call 27; refine HH.out.mono ?_; rintro e w4 ⟨rfl, hk4⟩)
          go_roundw
          case rel => exact ⟨k + 1, a', cap', by omega, by go_num, by rw [EN.out], by rw [EN.out]; exact ho.later hk4⟩
          case measure => simp [intOf]; omega
      · obtain rfl : k = 3 := by omega
        go_wp2_with fail
        go_ret2
        rw [E.out, E2.out]
        exact ⟨a', cap', rfl, ho.rebase hkw3⟩
  · have E := hid (show needL l level age now = [] by simp [needL, hm])
    rw [hm] at HM
    clear hm
    go_enter Try.func20, Try.ntmps20
    go_wp2_with (go_at_call 18; refine HM.out.mono ?_; rintro e w1 ⟨rfl, hk1⟩)
    go_ret2
    rw [E.out, E2.out]
    exact ⟨none, 0, rfl, (OwnF.start w).later hk1⟩
end Go.Proofs.Ytmipnhdfhgekkaa

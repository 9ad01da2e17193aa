/- OnceSingle: the walk. -/
import Derived.Test.YtiaklgmmiadfoaaOpen2
namespace Go.Proofs.Ytiaklgmmiadfoaa
open Go.RowKit Go.Maps Go.WideMaps

set_option maxHeartbeats 1000000 in
set_option maxRecDepth 100000 in
theorem single_walk {w : World} (most : Int) (_hm : (Lit.int .i64 most).wf = true) {a : Option Addr} {cap : Nat} {l : List OpT} (hl : OpsAt w a l ∧ l.length ≤ cap ∧ cap ≤ maxLen) (x : OpT) (hx : x.id.size ≤ maxLen) :
    Calls Try.prog 4 #[.int .i64 most, .slice a l.length cap, opV x] w fun e w' => e = .returned (.bool true) ∧ Below w.heap.size w w' := by
  obtain ⟨h, hcap, hcm⟩ := hl
  have hf := h.few
  unfold maxLen at hf hcm
  cases hfw : fewB l
  · go_enter Try.func4, Try.ntmps4
    go_wp2_with (first
      | (go_at_call 9; refine (few_start h x).mono ?_; rintro e w0 ⟨rfl, hst⟩; obtain ⟨ho0, ho1, ho2, ho3⟩ := hst.box)
      | (go_at_call 10; refine (alive_any _).mono ?_; rintro e wz ⟨rfl, hkz⟩))
    go_ret
    exact ⟨rfl, (hst.kept.step hkz (by simp)).toBelow (by simp)⟩
  by_cases h100 : (100 : Int) < x.id.size
  · go_enter Try.func4, Try.ntmps4
    go_wp2_with (first
      | (go_at_call 9; refine (few_start h x).mono ?_; rintro e w0 ⟨rfl, hst⟩; obtain ⟨ho0, ho1, ho2, ho3⟩ := hst.box)
      | (go_at_call 10; refine (alive_any _).mono ?_; rintro e wz ⟨rfl, hkz⟩))
    go_ret
    exact ⟨rfl, (hst.kept.step hkz (by simp)).toBelow (by simp)⟩
  by_cases hm : most < 1 ∨ 256 < most
  · go_enter Try.func4, Try.ntmps4
    go_wp2_with (first
      | (go_at_call 9; refine (few_start h x).mono ?_; rintro e w0 ⟨rfl, hst⟩; obtain ⟨ho0, ho1, ho2, ho3⟩ := hst.box)
      | (go_at_call 11; refine (new_no _ hm _).mono ?_; rintro e w' ⟨rfl, rfl⟩)
      | (go_at_call 10; refine (alive_any _).mono ?_; rintro e wz ⟨rfl, hkz⟩))
    go_ret
    exact ⟨rfl, (hst.kept.step hkz (by simp)).toBelow (by simp)⟩
  have hm1 : 1 ≤ most := by omega
  have hm2 : most ≤ 256 := by omega
  clear hm
  by_cases hok : (useL (playL most [] l) most x.id.data.toList (lim x.till) (lim x.now)).1 = 0
  · have hok' : ((useL (playL most [] l) most x.id.data.toList (lim x.till) (lim x.now)).1 != 0) = false := by simpa using hok
    have HOK := hid hok
    clear hok
    go_enter Try.func4, Try.ntmps4
    go_wp2_with (first
      | (go_at_call 9; refine (few_start h x).mono ?_; rintro e w0 ⟨rfl, hst⟩; obtain ⟨ho0, ho1, ho2, ho3⟩ := hst.box)
      | (go_at_call 11; refine (new_ex _ hm1 hm2 _).mono ?_; rintro e w1 ⟨rb, mb, rfl, hr1, hk1, hrb, hmb⟩; have hlt := hst.lt; have hmn : w.heap.size ∉ [mb] := (by simp; omega))
      | (go_at_call 21; refine (play_reg hr1 (hst.ops.keptS hk1 (by simp)) (hst.ops.old hmb)).mono ?_; rintro e w2 ⟨rfl, hr2, hk2⟩; obtain ⟨ho20, ho21, ho22, ho23⟩ := (hst.box.kept hk1 hlt (by simp)).kept hk2 (by have := hk1.size; omega) hmn)
      | (go_at_call 22; refine (add0_any _ _).mono ?_; rintro e w' ⟨rfl, rfl⟩)
      | (go_at_call 13; refine (use_reg hr2 _ hx _ _).mono ?_; rintro e w3 ⟨rfl, hr3, hk3⟩))
    obtain ⟨hwd, hend, hlook⟩ := useL_ok hr2.uniq HOK.out
    have hkw3 : Kept [mb] w0 w3 := (((hk1.mono (by simp)).step hk2 (by simp)).step hk3 (by simp))
    have HL3 := hid hlook
    generalize (useL (playL most [] l) most x.id.data.toList (lim x.till) (lim x.now)).2 = L3 at hr3 HL3
    have HW := hid hwd
    clear hk1 hk2 hk3 hr1 hr2 hok' HOK hlook hwd ho20 ho21 ho22 ho23 ho0 ho1 ho2 ho3
    go_loopw [10] (fun i wr => ∃ (k : Nat) (L : List Ent), k ≤ l.length ∧ i = .int .i64 k ∧ RegAt wr rb mb most L ∧ Hid (look L x.id.data.toList = some (lim x.till)) ∧ Kept [mb] w0 wr) (fun i _ => l.length - (intOf i).toNat)
    case atStart => exact ⟨0, L3, Nat.zero_le _, rfl, hr3, HL3, hkw3⟩
    case round =>
      obtain ⟨k, L, hk, rfl, hrg, HL, hkw⟩ := hrel
      clear hr3 HL3 hkw3
      obtain ⟨ho0, ho1, ho2, ho3⟩ := hst.box.kept hkw hlt hmn
      by_cases hltk : k < l.length
      · have hOp := hst.ops.keptS hkw (fun h0 y hy => by simpa using hst.ops.old hmb h0 y hy)
        obtain ⟨b, off, rfl, hb, hc0', hc1, hc2, hc3⟩ := hOp.at hltk
        have hne : b ≠ mb := fun e => hst.ops.old hmb (by omega) _ rfl e
        have hb1 : (0 : Int) ≤ k := by omega
        have hb2 : (k : Int) < l.length := by omega
        have hb3 : (k : Int) + 1 ≤ cap := by omega
        have hone := hOp.one hltk
        have hysz := hOp.sized _ (List.getElem_mem hltk)
        generalize l[k] = y at *
        by_cases hc : lim x.till ≤ lim y.now
        · go_wp2_with (go_at_call 22; refine (add0_any _ _).mono ?_; rintro e w' ⟨rfl, rfl⟩)
          go_roundw
          case rel => exact ⟨k + 1, L, by omega, by go_num, hrg, HL, hkw⟩
          case measure => simp [intOf]; omega
        · have HL4 := hid (stepL_keeps hrg.uniq HL.out most (x := y) (by omega))
          obtain ⟨c, E, hc0⟩ : ∃ c, Hid (useL (stepL most L y) most x.id.data.toList (lim y.till) (lim y.now) = (c, stepL most L y)) ∧ (c == 0) = false :=
            ⟨_, useL_held HW.out HL4.out (by omega), by split <;> rfl⟩
          have ES := hid (seenB_held HL4.out (n := y.now) (by omega))
          go_wp2_with (first
            | (go_at_call 22; refine (add0_any _ _).mono ?_; rintro e w' ⟨rfl, rfl⟩)
            | (go_at_call 21; refine (play_reg hrg hone (fun _ z hz => by injection hz with hz; rw [← hz]; exact hne)).mono ?_; rintro e w4 ⟨rfl, hr4, hk4⟩; rw [playL_one] at hr4))
          have hb4 := hk4.size
          have hcx := (hst.box.kept hkw hlt hmn).kept hk4 (by have := hkw.size; omega) hmn
          have hcy := OpCells.kept ⟨hc0', hc1, hc2, hc3⟩ hk4 hb (by simpa using hne)
          have hall := hid (show ∀ w', Kept [mb] w4 w' → w'.cell? ⟨w.heap.size, 1, none⟩ = some (.string x.id) ∧ w'.cell? ⟨b, off + k * 4 + 2, none⟩ = some (.int .i64 y.till) ∧ w'.cell? ⟨b, off + k * 4 + 3, none⟩ = some (.int .i64 y.now) from fun w' hk => by
            have h1 := hcx.kept hk (by have := hkw.size; omega) hmn
            have h2 := hcy.kept hk (by omega) (by simpa using hne)
            exact ⟨h1.2.1, h2.2.2.1, h2.2.2.2⟩)
          clear hcx hcy
          have hr4d : RegAt w4.drew rb mb most (stepL most L y) := hr4.kept (S := []) (Kept.refl _ _).drew (by simp) (by simp)
          go_region_held3 (fun w' => w'.cell? ⟨w.heap.size, 1, none⟩ = some (.string x.id) ∧ w'.cell? ⟨b, off + k * 4 + 2, none⟩ = some (.int .i64 y.till) ∧ w'.cell? ⟨b, off + k * 4 + 3, none⟩ = some (.int .i64 y.now))
            (first | (exact hall.out _ (Kept.refl _ _).drew) | (exact hall.out _ ((Kept.refl _ _).drew.step hk5 (fun i hi => hi))) | (exact hall.out _ (((Kept.refl _ _).drew.step hk5 (fun i hi => hi)).step hk6 (fun i hi => hi))))
            (first
              | (go_at_call 13; refine (use_to hr4d hx E.out).mono ?_; rintro e w5 ⟨rfl, hr5, hk5⟩)
              | (go_at_call 15; refine (seen_to hr5 hx ES.out).mono ?_; rintro e w6 ⟨rfl, hr6, hk6⟩))
          go_wp2_with fail
          go_roundw
          case rel => exact ⟨k + 1, _, by omega, by go_num, hr6, HL4, (((hkw.step hk4 (by simp)).drew.step hk5 (by simp)).step hk6 (by simp))⟩
          case measure => simp [intOf]; omega
      · have hl0 := (lim_bd x.now).1
        have hl1 := (lim_bd x.till).2
        have hz : (lim x.till == 0) = false := by simp; omega
        have hs1 : 0 ≤ lim x.till - 1 := by omega
        have ES := hid (seenB_over HL.out (n := lim x.till) (by rw [lim_lim]; exact Int.le_refl _))
        have E : Hid (useL L most x.id.data.toList (lim (lim x.till)) (lim (lim x.till - 1)) = (18, L)) := by
          have h1 := useL_held (most := most) (u := lim (lim x.till)) (n := lim (lim x.till - 1)) HW.out HL.out (by rw [lim_id (lim x.till - 1) hs1 (by omega)]; omega)
          rw [if_neg (by rw [lim_lim, lim_id (lim x.till - 1) hs1 (by omega)]; omega)] at h1
          exact h1
        go_wp2_with (first
          | (go_at_call 15; refine (seen_to hrg hx ES.out).mono ?_; rintro e w4 ⟨rfl, hr4, hk4⟩; obtain ⟨ho40, ho41, ho42, ho43⟩ := (hst.box.kept hkw hlt hmn).kept hk4 (by have := hkw.size; omega) hmn)
          | (go_at_call 13; refine (use_to hr4 hx E.out).mono ?_; rintro e w5 ⟨rfl, hr5, hk5⟩)
          | (go_at_call 10; refine (alive_any _).mono ?_; rintro e wz ⟨rfl, hkz⟩))
        go_ret
        have hm0 : ∀ i ∈ [mb], i ∈ ([] : List Nat) ∨ w.heap.size ≤ i := by simp; omega
        exact ⟨rfl, ((((hst.kept.trans hkw hm0).trans hk4 hm0).trans hk5 hm0).step hkz (by simp)).toBelow (by simp)⟩
  · have hok' : ((useL (playL most [] l) most x.id.data.toList (lim x.till) (lim x.now)).1 != 0) = true := by simpa using hok
    clear hok
    go_enter Try.func4, Try.ntmps4
    go_wp2_with (first
      | (go_at_call 9; refine (few_start h x).mono ?_; rintro e w0 ⟨rfl, hst⟩; obtain ⟨ho0, ho1, ho2, ho3⟩ := hst.box)
      | (go_at_call 11; refine (new_ex _ hm1 hm2 _).mono ?_; rintro e w1 ⟨rb, mb, rfl, hr1, hk1, hrb, hmb⟩; have hlt := hst.lt; have hmn : w.heap.size ∉ [mb] := (by simp; omega))
      | (go_at_call 21; refine (play_reg hr1 (hst.ops.keptS hk1 (by simp)) (hst.ops.old hmb)).mono ?_; rintro e w2 ⟨rfl, hr2, hk2⟩; obtain ⟨ho20, ho21, ho22, ho23⟩ := (hst.box.kept hk1 hlt (by simp)).kept hk2 (by have := hk1.size; omega) hmn)
      | (go_at_call 22; refine (add0_any _ _).mono ?_; rintro e w' ⟨rfl, rfl⟩)
      | (go_at_call 13; refine (use_reg hr2 _ hx _ _).mono ?_; rintro e w3 ⟨rfl, hr3, hk3⟩)
      | (go_at_call 10; refine (alive_any _).mono ?_; rintro e wz ⟨rfl, hkz⟩))
    go_ret
    have hm0 : ∀ i ∈ [mb], i ∈ ([] : List Nat) ∨ w.heap.size ≤ i := by simp; omega
    exact ⟨rfl, (((((hst.kept.step hk1 (by simp)).trans hk2 hm0).trans hk3 hm0)).step hkz (by simp)).toBelow (by simp)⟩

end Go.Proofs.Ytiaklgmmiadfoaa

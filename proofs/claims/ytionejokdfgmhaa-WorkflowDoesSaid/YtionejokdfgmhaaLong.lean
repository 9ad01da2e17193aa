/- Great, long, Same. -/
import Derived.Test.YtionejokdfgmhaaOps
import Derived.IntWalk
namespace Go.Proofs.Ytionejokdfgmhaa
open Go.RowKit Go.Maps

def overB (n : Int) (s : Str) : Bool := decide (n < s.length)
def greatB (l : List Str) (m n : Int) : Bool := decide (m < l.length) || l.any (overB n)
theorem great_yes {l : List Str} {m n : Int} {k : Nat} (hk : k < l.length) (hp : overB n l[k] = true) : greatB l m n = true := by
  unfold greatB; rw [any_yes hk hp]; simp
set_option maxHeartbeats 1000000 in
theorem great_any {w : World} {a : Option Addr} {cap : Nat} {l : List Str} (h : StrsAt w a l) (m n : Int) :
    Calls Try.prog 24 #[.slice a l.length cap, .int .i64 m, .int .i64 n] w fun e w' => e = .returned (.bool (greatB l m n)) ∧ w = w' := by
  have hf := h.few
  unfold maxLen at hf
  by_cases h0 : m < l.length
  · have E := hid (show greatB l m n = true by unfold greatB; rw [decide_eq_true h0]; rfl)
    rw [E.out]
    go_enter Try.func24, Try.ntmps24
    go_wp2_with fail
    go_ret
    exact ⟨rfl, rfl⟩
  · have E := hid (show greatB l m n = l.any (overB n) by unfold greatB; rw [decide_eq_false h0]; rfl)
    have h0' : (l.length : Int) ≤ m := by omega
    clear h0
    go_enter Try.func24, Try.ntmps24
    go_wp2_with fail
    go_loop [7] (fun i => ∃ k : Nat, k ≤ l.length ∧ i = .int .i64 k ∧ NoneTo (overB n) l k) (fun i => l.length - (intOf i).toNat)
    case atStart => exact ⟨0, Nat.zero_le _, rfl, NoneTo.zero _ _⟩
    case round =>
      obtain ⟨k, hk, rfl, hn⟩ := hrel
      by_cases hlt : k < l.length
      · obtain ⟨b, off, rfl, hb, hc⟩ := h.get hlt
        unfold sV at hc
        have hb1 : (0 : Int) ≤ k := by omega
        have hb2 : (k : Int) < l.length := by omega
        have z1 := size_str l[k]
        by_cases ho : n < (l[k].length : Int)
        · have HP := hid (great_yes (m := m) hlt (show overB n l[k] = true by unfold overB; rw [decide_eq_true ho]))
          go_wp2_with fail
          go_ret
          exact ⟨ret_bool HP.out.symm, rfl⟩
        · have HP := hid (hn.next hlt (show overB n l[k] = false by unfold overB; rw [decide_eq_false ho]))
          go_wp2_with fail
          go_round
          case rel => exact ⟨k + 1, by omega, by go_num, HP.out⟩
          case measure => simp [intOf]; omega
      · have hx := hid (any_no hn (by omega))
        go_wp2_with fail
        go_ret
        exact ⟨ret_bool (by rw [E.out, hx.out]), rfl⟩

/-! ### Same -/
set_option maxHeartbeats 1000000 in
theorem sameS_any {w : World} {a b : Option Addr} {cap cap2 : Nat} {l : List Str} (h : StrsAt w a l) (h2 : StrsAt w b l) :
    Calls Try.prog 21 #[.slice a l.length cap, .slice b l.length cap2] w fun e w' => e = .returned (.bool true) ∧ DrewN w w' := by
  have hf := h.few
  unfold maxLen at hf
  go_enter Try.func21, Try.ntmps21
  go_wp2_with fail
  go_loopw [5] (fun i wr => ∃ k n : Nat, k ≤ l.length ∧ i = .int .i64 k ∧ wr = w.drewN n) (fun i _ => l.length - (intOf i).toNat)
  case atStart => exact ⟨0, 0, Nat.zero_le _, rfl, rfl⟩
  case round =>
    obtain ⟨k, n, hk, rfl, rfl⟩ := hrel
    by_cases hlt : k < l.length
    · obtain ⟨b1, off, rfl, hb, hc0⟩ := StrsAt.get h hlt
      obtain ⟨b2, off2, rfl, hb2, hd0⟩ := StrsAt.get h2 hlt
      unfold sV at hc0 hd0
      have hb1 : (0 : Int) ≤ k := by omega
      have hb2 : (k : Int) < l.length := by omega
      have q0 : (l[k] != l[k]) = false := by simp
      go_wp2_with fail
      go_quiet (fail)
      go_wp2_with fail
      go_roundw
      case rel => exact ⟨k + 1, _, by omega, by go_num, rfl⟩
      case measure => simp [intOf]; omega
    · go_wp2_with fail
      go_ret
      exact ⟨rfl, _, rfl⟩

/-! ### long -/
def fourL (x : OpD) : List Str := [x.id, x.name, x.user, x.by_]
def overT (s : Stp) : Bool := decide (300 < s.1.length)
def bigB (x : OpD) : Bool := decide (10 < x.steps.length) || greatB x.groups 10 300 || greatB (fourL x) 4 300 || x.steps.any overT
def longB (m : Int) (l : List OpD) : Bool := decide (m < l.length) || l.any bigB
theorem long_yes {l : List OpD} {m : Int} {k : Nat} (hk : k < l.length) (hp : bigB l[k] = true) : longB m l = true := by
  unfold longB; rw [any_yes hk hp]; simp
/-- An operation that is not long. -/
structure Small (x : OpD) : Prop where
  id : x.id.length ≤ 300
  name : x.name.length ≤ 300
  user : x.user.length ≤ 300
  by_ : x.by_.length ≤ 300
  steps : x.steps.length ≤ 10
  groups : x.groups.length ≤ 10
  grp : ∀ s ∈ x.steps, s.1.length ≤ 300
theorem small_of {x : OpD} (h : bigB x = false) : Small x := by
  unfold bigB at h
  simp only [Bool.or_eq_false_iff, decide_eq_false_iff_not] at h
  obtain ⟨⟨⟨h1, h2⟩, h3⟩, h4⟩ := h
  unfold greatB at h2 h3
  simp only [Bool.or_eq_false_iff, decide_eq_false_iff_not, List.any_eq_false] at h2 h3 h4
  have g : ∀ s ∈ fourL x, s.length ≤ 300 := fun s hs => by have := h3.2 s hs; unfold overB at this; simp at this; omega
  refine ⟨g _ (by simp [fourL]), g _ (by simp [fourL]), g _ (by simp [fourL]), g _ (by simp [fourL]), by omega, by omega, fun s hs => ?_⟩
  have := h4 s hs
  unfold overT at this
  simp at this
  omega
theorem long_no {m : Int} {l : List OpD} (h : longB m l = false) : (l.length : Int) ≤ m ∧ ∀ x ∈ l, Small x := by
  unfold longB at h
  simp only [Bool.or_eq_false_iff, decide_eq_false_iff_not] at h
  refine ⟨by omega, fun x hx => small_of ?_⟩
  have := List.any_eq_false.1 h.2 x hx
  simpa using this
set_option maxHeartbeats 8000000 in
set_option maxRecDepth 100000 in
theorem long_any {w : World} {a : Option Addr} {cap : Nat} {l : List OpD} (h : OpsAt w a l) (m : Int) :
    Calls Try.prog 10 #[.slice a l.length cap, .int .i64 m] w fun e w' => e = .returned (.bool (longB m l)) ∧ Kept [] w w' := by
  have hf := h.cells.few
  unfold maxLen at hf
  by_cases h0 : m < l.length
  · have E := hid (show longB m l = true by unfold longB; rw [decide_eq_true h0]; rfl)
    rw [E.out]
    go_enter Try.func10, Try.ntmps10
    go_wp2_with fail
    go_ret
    exact ⟨rfl, Kept.refl _ _⟩
  · have E := hid (show longB m l = l.any bigB by unfold longB; rw [decide_eq_false h0]; rfl)
    have h0' : (l.length : Int) ≤ m := by omega
    have H := hid h
    clear h0 h
    go_enter Try.func10, Try.ntmps10
    go_wp2_with fail
    go_loopw [13] (fun i wr => ∃ k : Nat, k ≤ l.length ∧ i = .int .i64 k ∧ NoneTo bigB l k ∧ Kept [] w wr) (fun i _ => l.length - (intOf i).toNat)
    case atStart => exact ⟨0, Nat.zero_le _, rfl, NoneTo.zero _ _, Kept.refl _ _⟩
    case round =>
      obtain ⟨k, hk, rfl, hn, hkw⟩ := hrel
      have HKW := hid hkw
      have HN := hid hn
      clear hkw hn
      by_cases hlt : k < l.length
      · obtain ⟨b, off, rfl, hb, hc, hl1, hl2⟩ := (H.out.keptN HKW.out).get hlt
        have hb1 : (0 : Int) ≤ k := by omega
        have hb2 : (k : Int) < l.length := by omega
        have HYES := hid (fun hp => long_yes (m := m) hlt hp)
        have HNX := hid (fun hp => HN.out.next hlt hp)
        obtain ⟨d0, d1, d2, d3, d4, d5, d6, d7, d8⟩ := hc
        have HB := hid (show bigB l[k] = (decide (10 < l[k].steps.length) || greatB l[k].groups 10 300 || greatB (fourL l[k]) 4 300 || l[k].steps.any overT) from rfl)
        clear d0 d7 d8
        generalize l[k] = x at *
        by_cases t1 : 10 < x.steps.length
        · have hb' := hid (HYES.out (by rw [HB.out, decide_eq_true t1]; rfl))
          have t1' : decide ((10 : Int) < x.steps.length) = true := by rw [decide_eq_true_eq]; omega
          clear t1
          go_wp2_with fail
          go_quiet (fail)
          go_wp2_with fail
          go_ret
          rw [hb'.out]
          exact ⟨rfl, HKW.out.drewN _⟩
        · have t1' : decide ((10 : Int) < x.steps.length) = false := by rw [decide_eq_false_iff_not]; omega
          have HG1 := hid (fun n => Calls.quiet_of_same (n := n) (w := wr) ((great_any (cap := x.gc) (hl2.keptN ((Kept.refl [] wr).drewN n)) 10 300).mono fun _ _ h => ⟨h.1, h.2.symm⟩))
          cases t2 : greatB x.groups 10 300
          · rw [t2] at HG1
            unfold sV at d1 d2 d3 d4
            have HG1' := hid (fun wq (kq : Kept [] wr wq) => great_any (cap := x.gc) (hl2.keptN kq) 10 300)
            rw [t2] at HG1'
            have HCELL := hid (fun wq (kq : Kept [] wr wq) => And.intro (show wq.cell? ⟨b, off + k * 9 + 1, none⟩ = some (.string ⟨x.id.toArray⟩) from (kq.cell hb (by simp)).trans d1) (And.intro (show wq.cell? ⟨b, off + k * 9 + 2, none⟩ = some (.string ⟨x.name.toArray⟩) from (kq.cell hb (by simp)).trans d2) (And.intro (show wq.cell? ⟨b, off + k * 9 + 3, none⟩ = some (.string ⟨x.user.toArray⟩) from (kq.cell hb (by simp)).trans d3) (And.intro (show wq.cell? ⟨b, off + k * 9 + 4, none⟩ = some (.string ⟨x.by_.toArray⟩) from (kq.cell hb (by simp)).trans d4) (And.intro (show wq.cell? ⟨b, off + k * 9 + 5, none⟩ = some (.slice x.sa x.steps.length x.sc) from (kq.cell hb (by simp)).trans d5) (show wq.cell? ⟨b, off + k * 9 + 6, none⟩ = some (.slice x.ga x.groups.length x.gc) from (kq.cell hb (by simp)).trans d6))))))
            have HL1 := hid hl1
            cases t3 : greatB (fourL x) 4 300
            · have HF := hid (show ∀ wq q, wq.heap[q]? = some (.cells #[.string ⟨x.id.toArray⟩, .string ⟨x.name.toArray⟩, .string ⟨x.user.toArray⟩, .string ⟨x.by_.toArray⟩] 9 (0, 0)) → Calls Try.prog 24 #[.slice (some ⟨q, 0, none⟩) 4 4, .int .i64 4, .int .i64 300] wq fun e w' => e = .returned (.bool false) ∧ wq = w' from fun wq q hq => by
                have := great_any (cap := 4) (list_box encSOk (l := fourL x) hq rfl (by simp [fourL, maxLen])) 4 300
                rw [t3] at this
                exact this)
              have HF4 := hid (HF.out (wr.alloc (.cells #[.string ⟨x.id.toArray⟩, .string ⟨x.name.toArray⟩, .string ⟨x.user.toArray⟩, .string ⟨x.by_.toArray⟩] 9 (0, 0))).drew wr.heap.size (heap_alloc_new wr _))
              have HBN := hid (show bigB x = x.steps.any overT by rw [HB.out, decide_eq_false t1, t2, t3]; simp)
              have hst : (x.steps.length : Int) ≤ 10 := by omega
              clear t1 t2 t3 hl1 hl2
              go_wp2_with fail
              go_region_held3 (fun w' => w'.cell? ⟨b, off + k * 9 + 1, none⟩ = some (.string ⟨x.id.toArray⟩) ∧ w'.cell? ⟨b, off + k * 9 + 2, none⟩ = some (.string ⟨x.name.toArray⟩) ∧ w'.cell? ⟨b, off + k * 9 + 3, none⟩ = some (.string ⟨x.user.toArray⟩) ∧ w'.cell? ⟨b, off + k * 9 + 4, none⟩ = some (.string ⟨x.by_.toArray⟩) ∧ w'.cell? ⟨b, off + k * 9 + 5, none⟩ = some (.slice x.sa x.steps.length x.sc) ∧ w'.cell? ⟨b, off + k * 9 + 6, none⟩ = some (.slice x.ga x.groups.length x.gc))
                (first
                  | exact HCELL.out _ (((Kept.refl [] wr).alloc _).drew)
                  | exact HCELL.out _ ((Kept.refl [] wr).drew))
                (first
                  | (go_at_call 24; with_reducible refine (HG1'.out _ ((Kept.refl [] wr).drew)).mono ?_; rintro e w' ⟨rfl, rfl⟩)
                  | (go_at_call 24; with_reducible refine HF4.out.mono ?_; rintro e w' ⟨rfl, rfl⟩))
              have K5 := hid (((Kept.refl [] wr).alloc (.cells #[.string ⟨x.id.toArray⟩, .string ⟨x.name.toArray⟩, .string ⟨x.user.toArray⟩, .string ⟨x.by_.toArray⟩] 9 (0, 0))).drew)
              obtain ⟨w5, HW5⟩ : ∃ w5, Hid (w5 = (wr.alloc (.cells #[.string ⟨x.id.toArray⟩, .string ⟨x.name.toArray⟩, .string ⟨x.user.toArray⟩, .string ⟨x.by_.toArray⟩] 9 (0, 0))).drew) := ⟨_, hid rfl⟩
              rw [← HW5.out] at K5 ⊢
              obtain ⟨_, _, _, _, g5, _⟩ := HCELL.out _ K5.out
              have hst5 := HL1.out.keptN K5.out
              clear d1 d2 d3 d4 d5 d6 HF4 HF
              go_wp2_with fail
              go_loop [61] (fun i => ∃ j : Nat, j ≤ x.steps.length ∧ i = .int .i64 j ∧ NoneTo overT x.steps j) (fun i => x.steps.length - (intOf i).toNat)
              case atStart => exact ⟨0, Nat.zero_le _, rfl, NoneTo.zero _ _⟩
              case round =>
                obtain ⟨j, hj, rfl, hno⟩ := hrel
                by_cases hjl : j < x.steps.length
                · obtain ⟨b4, off4, e4, hb4, hc0, hc1⟩ := StpsAt.get hst5 hjl
                  rw [e4] at g5
                  unfold sV at hc0
                  have z1 := size_str x.steps[j].1
                  have hj1 : (0 : Int) ≤ j := by omega
                  have hj2 : (j : Int) < x.steps.length := by omega
                  by_cases ho : 300 < x.steps[j].1.length
                  · have HP := hid (HYES.out (by rw [HBN.out]; exact any_yes hjl (by unfold overT; rw [decide_eq_true ho])))
                    clear hno
                    go_wp2_with fail
                    go_ret
                    rw [HP.out]
                    exact ⟨rfl, HKW.out.step K5.out (by simp)⟩
                  · have HP := hid (hno.next hjl (by unfold overT; rw [decide_eq_false ho]))
                    clear hno
                    go_wp2_with fail
                    go_round
                    case rel => exact ⟨j + 1, by omega, by go_num, HP.out⟩
                    case measure => simp [intOf]; omega
                · have HP := hid (HNX.out (by rw [HBN.out]; exact any_no hno (by omega)))
                  clear hno
                  go_wp2_with fail
                  go_roundw
                  case rel => exact ⟨k + 1, by omega, by go_num, HP.out, HKW.out.step K5.out (by simp)⟩
                  case measure => simp [intOf]; omega
            · have HF := hid (show ∀ wq q, wq.heap[q]? = some (.cells #[.string ⟨x.id.toArray⟩, .string ⟨x.name.toArray⟩, .string ⟨x.user.toArray⟩, .string ⟨x.by_.toArray⟩] 9 (0, 0)) → Calls Try.prog 24 #[.slice (some ⟨q, 0, none⟩) 4 4, .int .i64 4, .int .i64 300] wq fun e w' => e = .returned (.bool true) ∧ wq = w' from fun wq q hq => by
                have := great_any (cap := 4) (list_box encSOk (l := fourL x) hq rfl (by simp [fourL, maxLen])) 4 300
                rw [t3] at this
                exact this)
              have HF4 := hid (HF.out (wr.alloc (.cells #[.string ⟨x.id.toArray⟩, .string ⟨x.name.toArray⟩, .string ⟨x.user.toArray⟩, .string ⟨x.by_.toArray⟩] 9 (0, 0))).drew wr.heap.size (heap_alloc_new wr _))
              have hb' := hid (HYES.out (by rw [HB.out, decide_eq_false t1, t2, t3]; rfl))
              clear t1 t2 t3 hl1 hl2
              go_wp2_with fail
              go_region_held3 (fun w' => w'.cell? ⟨b, off + k * 9 + 1, none⟩ = some (.string ⟨x.id.toArray⟩) ∧ w'.cell? ⟨b, off + k * 9 + 2, none⟩ = some (.string ⟨x.name.toArray⟩) ∧ w'.cell? ⟨b, off + k * 9 + 3, none⟩ = some (.string ⟨x.user.toArray⟩) ∧ w'.cell? ⟨b, off + k * 9 + 4, none⟩ = some (.string ⟨x.by_.toArray⟩) ∧ w'.cell? ⟨b, off + k * 9 + 5, none⟩ = some (.slice x.sa x.steps.length x.sc) ∧ w'.cell? ⟨b, off + k * 9 + 6, none⟩ = some (.slice x.ga x.groups.length x.gc))
                (first
                  | exact HCELL.out _ (((Kept.refl [] wr).alloc _).drew)
                  | exact HCELL.out _ ((Kept.refl [] wr).drew))
                (first
                  | (go_at_call 24; with_reducible refine (HG1'.out _ ((Kept.refl [] wr).drew)).mono ?_; rintro e w' ⟨rfl, rfl⟩)
                  | (go_at_call 24; with_reducible refine HF4.out.mono ?_; rintro e w' ⟨rfl, rfl⟩))
              go_wp2_with fail
              go_ret
              rw [hb'.out]
              exact ⟨rfl, (HKW.out.alloc _).drew⟩
          · rw [t2] at HG1
            have hb' := hid (HYES.out (by rw [HB.out, decide_eq_false t1, t2]; rfl))
            clear t1 t2
            go_wp2_with fail
            go_quiet ((go_at_call 24; with_reducible exact HG1.out _))
            go_wp2_with fail
            go_ret
            rw [hb'.out]
            exact ⟨rfl, HKW.out.drewN _⟩
      · have hx := hid (any_no HN.out (by omega))
        go_wp2_with fail
        go_ret
        rw [E.out, hx.out]
        exact ⟨rfl, HKW.out⟩
end Go.Proofs.Ytionejokdfgmhaa

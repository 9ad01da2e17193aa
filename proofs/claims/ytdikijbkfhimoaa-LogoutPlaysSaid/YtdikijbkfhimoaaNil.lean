/- LogoutNil: a record that New did not return; the walk. -/
import Derived.Test.YtdikijbkfhimoaaFew
namespace Go.Proofs.Ytdikijbkfhimoaa
open Go.RowKit Go.Maps

/-- A record that New did not return. -/
def Dead (w : World) (p : Option Addr) : Prop := p = none ∨ ∃ b, p = some ⟨b, 0, none⟩ ∧ w.cell? ⟨b, 2, none⟩ = some (.map none)
theorem Dead.keptN {w w' : World} {p : Option Addr} (h : Dead w p) (k : Kept [] w w') : Dead w' p := by
  rcases h with h | ⟨b, e, hc⟩
  · exact .inl h
  · exact .inr ⟨b, e, (k.cell (p := ⟨b, 2, none⟩) (cell_lt hc) (by simp)).trans hc⟩
theorem ready_dead {w : World} {p : Option Addr} (h : Dead w p) :
    Calls Try.prog 34 #[.pointer p] w fun e w' => e = .returned (.bool false) ∧ w = w' := by
  rcases h with rfl | ⟨b, rfl, hc⟩
  · exact ready_none w
  · exact ready_any hc
set_option maxHeartbeats 400000 in
theorem begin_dead {w : World} {p : Option Addr} (h : Dead w p) (s : ByteArray) (a : Option Addr) (n c : Nat) (t : Int) :
    Calls Try.prog 13 #[.pointer p, .string s, .slice a n c, .int .i64 t] w fun e w' => e = .returned (.int .i64 1) ∧ Kept [] w w' := by
  go_enter Try.func13, Try.ntmps13
  go_wp2_with (go_at_call 34; refine (ready_dead h).mono ?_; rintro e w' ⟨rfl, rfl⟩)
  go_ret
  exact ⟨rfl, Kept.refl _ _⟩
set_option maxHeartbeats 400000 in
theorem end_dead {w : World} {p : Option Addr} (h : Dead w p) (s c : ByteArray) (f : Value) :
    Calls Try.prog 46 #[.pointer p, .string s, .string c, f] w fun e w' => e = .returned (.int .i64 1) ∧ Kept [] w w' := by
  go_enter Try.func46, Try.ntmps46
  go_wp2_with (go_at_call 34; refine (ready_dead h).mono ?_; rintro e w' ⟨rfl, rfl⟩)
  go_ret
  exact ⟨rfl, Kept.refl _ _⟩
set_option maxHeartbeats 400000 in
theorem done_dead {w : World} {p : Option Addr} (h : Dead w p) (s c : ByteArray) (t : Int) :
    Calls Try.prog 18 #[.pointer p, .string s, .string c, .int .i64 t] w fun e w' => e = .returned (.int .i64 1) ∧ Kept [] w w' := by
  go_enter Try.func18, Try.ntmps18
  go_wp2_with (go_at_call 46; refine (end_dead h _ _ _).mono ?_; rintro e w' ⟨rfl, k1⟩)
  go_ret
  exact ⟨rfl, k1⟩
set_option maxHeartbeats 400000 in
theorem fail_dead {w : World} {p : Option Addr} (h : Dead w p) (s c : ByteArray) (t : Int) :
    Calls Try.prog 20 #[.pointer p, .string s, .string c, .int .i64 t] w fun e w' => e = .returned (.int .i64 1) ∧ Kept [] w w' := by
  go_enter Try.func20, Try.ntmps20
  go_wp2_with (go_at_call 46; refine (end_dead (h.keptN ((Kept.refl [] w).alloc _)) _ _ _).mono ?_; rintro e w' ⟨rfl, k1⟩)
  go_ret
  exact ⟨rfl, ((Kept.refl [] w).alloc _).step k1 (by simp)⟩
set_option maxHeartbeats 400000 in
theorem status_dead {w : World} {p : Option Addr} (h : Dead w p) (s : ByteArray) :
    Calls Try.prog 22 #[.pointer p, .string s] w fun e w' => e = .returned (.tuple #[.int .i64 0, .int .i64 0, .int .i64 0]) ∧ Kept [] w w' := by
  go_enter Try.func22, Try.ntmps22
  go_wp2_with (go_at_call 34; refine (ready_dead h).mono ?_; rintro e w' ⟨rfl, rfl⟩)
  go_ret3
  exact ⟨rfl, Kept.refl _ _⟩
set_option maxHeartbeats 400000 in
theorem given_dead {w : World} {p : Option Addr} (h : Dead w p) (s : ByteArray) :
    Calls Try.prog 25 #[.pointer p, .string s] w fun e w' => e = .returned (.slice none 0 0) ∧ Kept [] w w' := by
  go_enter Try.func25, Try.ntmps25
  go_wp2_with (go_at_call 34; refine (ready_dead h).mono ?_; rintro e w' ⟨rfl, rfl⟩)
  go_ret
  exact ⟨rfl, Kept.refl _ _⟩
set_option maxHeartbeats 400000 in
theorem bound_dead {w : World} {p : Option Addr} (h : Dead w p) :
    Calls Try.prog 27 #[.pointer p] w fun e w' => e = .returned (.int .i64 0) ∧ Kept [] w w' := by
  go_enter Try.func27, Try.ntmps27
  go_wp2_with (go_at_call 34; refine (ready_dead h).mono ?_; rintro e w' ⟨rfl, rfl⟩)
  go_ret
  exact ⟨rfl, Kept.refl _ _⟩
set_option maxHeartbeats 400000 in
theorem due_dead {w : World} {p : Option Addr} (h : Dead w p) (t : Int) :
    Calls Try.prog 16 #[.pointer p, .int .i64 t] w fun e w' => e = .returned (.slice none 0 0) ∧ Kept [] w w' := by
  go_enter Try.func16, Try.ntmps16
  go_wp2_with (go_at_call 34; refine (ready_dead (h.keptN ((Kept.refl [] w).alloc _))).mono ?_; rintro e w' ⟨rfl, rfl⟩)
  go_ret
  exact ⟨rfl, (Kept.refl [] w).alloc _⟩
theorem encOOk : Enc Try.prog 34 5 72 encO :=
  ⟨fun _ => rfl, fun x v hv => by simp [encO] at hv; rcases hv with rfl | rfl | rfl | rfl | rfl <;> rfl, by omega, by omega, by
    obtain ⟨i0, hi, h1, h2, h3⟩ := info_parts (show (Try.prog.info? 34).map (fun i => (i.zero, i.size, i.bytes)) = some (some (.agg #[.int .i64 0, .string ⟨#[]⟩, .string ⟨#[]⟩, .slice none 0 0, .int .i64 0]), 5, 72) by kernel_rfl)
    exact ⟨i0, _, hi, h1, h2, h3, rfl⟩⟩
theorem ops_one (w : World) {x : OpD} (hx : OpL w x) : OpsAt (w.alloc (.cells (encO x).toArray 34)) (some ⟨w.heap.size, 0, none⟩) [x] :=
  ⟨list_box encOOk (heap_alloc_new w _) (by simp [rowV]) (by simp [maxLen]), fun y hy => by simp at hy; subst hy; exact hx.keptN ((Kept.refl [] w).alloc _)⟩

set_option maxHeartbeats 4000000 in
set_option maxRecDepth 100000 in
theorem nil_walk (x : OpD) {w : World} (hx : OpL w x) :
    Calls Try.prog 7 #[.agg (encO x).toArray] w fun e w' => e = .returned (.bool true) ∧ Below w.heap.size w w' := by
  have HF := hid (few_any (cap := 1) (ops_one (w.alloc (.cells (encO x).toArray 34)) (hx.keptN ((Kept.refl [] w).alloc _))))
  rw [show (w.alloc (.cells (encO x).toArray 34)).heap.size = w.heap.size + 1 by simp] at HF
  unfold encO sV at *
  generalize hfw : fewB [x] = f at *
  clear hfw
  obtain ⟨xk, xi, xc, xl, xn, xa, xq⟩ := x
  dsimp only at *
  cases f with
  | false =>
    go_enter Try.func7, Try.ntmps7
    go_wp2_with (first
      | (go_at_call 9; refine HF.out.mono ?_; rintro e w1 ⟨rfl, hk1⟩)
      | (go_at_call 10; refine (alive_any _).mono ?_; rintro e w2 ⟨rfl, hk2⟩))
    go_ret
    exact ⟨rfl, (((((Kept.refl [] w).alloc _).alloc _).step hk1 (by simp)).step hk2 (by simp)).toBelow (by simp)⟩
  | true =>
    go_enter Try.func7, Try.ntmps7
    go_wp2_with (go_at_call 9; refine HF.out.mono ?_; rintro e w1 ⟨rfl, hk1⟩)
    have hb0 := hk1.at ((((Kept.refl [] (w.alloc (.cells #[.int .i64 xk, .string ⟨xi.toArray⟩, .string ⟨xc.toArray⟩, .slice xa xl.length xq, .int .i64 xn] 34))).alloc (.cells #[.int .i64 xk, .string ⟨xi.toArray⟩, .string ⟨xc.toArray⟩, .slice xa xl.length xq, .int .i64 xn] 34))).at (heap_alloc_new w (.cells #[.int .i64 xk, .string ⟨xi.toArray⟩, .string ⟨xc.toArray⟩, .slice xa xl.length xq, .int .i64 xn] 34)) (by simp)) (by simp)
    have hz0 := heap_alloc_new w1 (.cells #[.int .i64 0, .int .i64 0, .map none] 57)
    have hz1 := heap_alloc_new (w1.alloc (.cells #[.int .i64 0, .int .i64 0, .map none] 57)) (.cells #[.pointer none, .pointer (some ⟨w1.heap.size, 0, none⟩)] 25)
    rw [show (w1.alloc (.cells #[.int .i64 0, .int .i64 0, .map none] 57)).heap.size = w1.heap.size + 1 by simp] at hz1
    have kz : Kept [] w1 ((w1.alloc (.cells #[.int .i64 0, .int .i64 0, .map none] 57)).alloc (.cells #[.pointer none, .pointer (some ⟨w1.heap.size, 0, none⟩)] 25)) := ((Kept.refl [] w1).alloc _).alloc _
    have kz0 : Kept [] (w1.alloc (.cells #[.int .i64 0, .int .i64 0, .map none] 57)) ((w1.alloc (.cells #[.int .i64 0, .int .i64 0, .map none] 57)).alloc (.cells #[.pointer none, .pointer (some ⟨w1.heap.size, 0, none⟩)] 25)) := (Kept.refl [] _).alloc _
    have HCZ := hid (fun (W : World) (k : Kept [] ((w1.alloc (.cells #[.int .i64 0, .int .i64 0, .map none] 57)).alloc (.cells #[.pointer none, .pointer (some ⟨w1.heap.size, 0, none⟩)] 25)) W) => And.intro (k.at (kz.at hb0 (by simp)) (by simp)) (And.intro (k.at (kz0.at hz0 (by simp)) (by simp)) (k.at hz1 (by simp))))
    have KW := hid ((((Kept.refl [] w).alloc _).alloc _).step hk1 (by simp) |>.step kz (by simp))
    clear hb0 hz0 hz1 kz kz0 hk1
    go_loopw [19] (fun i wr => ∃ k : Nat, k ≤ 2 ∧ i = .int .i64 k ∧ Kept [] ((w1.alloc (.cells #[.int .i64 0, .int .i64 0, .map none] 57)).alloc (.cells #[.pointer none, .pointer (some ⟨w1.heap.size, 0, none⟩)] 25)) wr) (fun i _ => 2 - (intOf i).toNat)
    case atStart => exact ⟨0, by omega, rfl, Kept.refl _ _⟩
    case round =>
      obtain ⟨k, hk, rfl, hkw⟩ := hrel
      have HKW := hid hkw
      by_cases hlt : k < 2
      · obtain ⟨p, hp, hd⟩ : ∃ p, wr.cell? ⟨w1.heap.size + 1, k, none⟩ = some (.pointer p) ∧ Dead wr p := by
          obtain ⟨_, z1, z2⟩ := HCZ.out wr hkw
          rcases (show k = 0 ∨ k = 1 by omega) with rfl | rfl
          · exact ⟨_, by rw [cell_at z2]; rfl, .inl rfl⟩
          · exact ⟨_, by rw [cell_at z2]; rfl, .inr ⟨_, rfl, by rw [cell_at z1]; rfl⟩⟩
        have HC := hid (fun (W : World) (k : Kept [] wr W) => show W.cell? ⟨w.heap.size, 1, none⟩ = some (.string ⟨xi.toArray⟩) ∧ W.cell? ⟨w.heap.size, 2, none⟩ = some (.string ⟨xc.toArray⟩) ∧ W.cell? ⟨w.heap.size, 3, none⟩ = some (.slice xa xl.length xq) ∧ W.cell? ⟨w.heap.size, 4, none⟩ = some (.int .i64 xn) from by
          have h0 := (HCZ.out W (hkw.step k (by simp))).1
          exact ⟨by rw [cell_at h0]; rfl, by rw [cell_at h0]; rfl, by rw [cell_at h0]; rfl, by rw [cell_at h0]; rfl⟩)
        have HD := hid hd
        have kk := Kept.refl [] wr
        obtain ⟨d1, d2, d3, d4⟩ := HC.out _ kk
        clear hd hkw
        go_wp2_with (first
          | (go_at_call 22; refine (status_dead (HD.out.keptN kk) _).mono ?_; rintro e w' ⟨rfl, k'⟩; replace kk := kk.step k' (by simp); clear k'; obtain ⟨d1, d2, d3, d4⟩ := HC.out _ kk)
          | (go_at_call 16; refine (due_dead (HD.out.keptN kk) _).mono ?_; rintro e w' ⟨rfl, k'⟩; replace kk := kk.step k' (by simp); clear k'; obtain ⟨d1, d2, d3, d4⟩ := HC.out _ kk)
          | (go_at_call 25; refine (given_dead (HD.out.keptN kk) _).mono ?_; rintro e w' ⟨rfl, k'⟩; replace kk := kk.step k' (by simp); clear k'; obtain ⟨d1, d2, d3, d4⟩ := HC.out _ kk)
          | (go_at_call 27; refine (bound_dead (HD.out.keptN kk)).mono ?_; rintro e w' ⟨rfl, k'⟩; replace kk := kk.step k' (by simp); clear k'; obtain ⟨d1, d2, d3, d4⟩ := HC.out _ kk)
          | (go_at_call 13; refine (begin_dead (HD.out.keptN kk) _ _ _ _ _).mono ?_; rintro e w' ⟨rfl, k'⟩; replace kk := kk.step k' (by simp); clear k'; obtain ⟨d1, d2, d3, d4⟩ := HC.out _ kk)
          | (go_at_call 18; refine (done_dead (HD.out.keptN kk) _ _ _).mono ?_; rintro e w' ⟨rfl, k'⟩; replace kk := kk.step k' (by simp); clear k'; obtain ⟨d1, d2, d3, d4⟩ := HC.out _ kk)
          | (go_at_call 20; refine (fail_dead (HD.out.keptN kk) _ _ _).mono ?_; rintro e w' ⟨rfl, k'⟩; replace kk := kk.step k' (by simp); clear k'; obtain ⟨d1, d2, d3, d4⟩ := HC.out _ kk))
        go_roundw
        case rel => exact ⟨k + 1, by omega, by go_num, HKW.out.step kk (by simp)⟩
        case measure => simp [intOf]; omega
      · clear hkw
        go_wp2_with (go_at_call 10; refine (alive_any _).mono ?_; rintro e w2 ⟨rfl, hk2⟩)
        go_ret
        exact ⟨rfl, ((KW.out.step HKW.out (by simp)).step hk2 (by simp)).toBelow (by simp)⟩
end Go.Proofs.Ytdikijbkfhimoaa

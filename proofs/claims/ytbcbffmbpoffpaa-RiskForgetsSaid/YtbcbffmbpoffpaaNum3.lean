/- The program's Score and Band. -/
import Derived.Test.YtbcbffmbpoffpaaNum2
import Derived.Test.YtbcbffmbpoffpaaStr
namespace Go.Proofs.Ytbcbffmbpoffpaa
open Go.RowKit Go.Lib

abbrev Sig := Str × Int
def encG (x : Sig) : List Value := [sV x.1, .int .i64 x.2]
abbrev SigsAt (w : World) (a : Option Addr) (l : List Sig) : Prop := ListAt 2 encG w a l
theorem SigsAt.get {w : World} {a : Option Addr} {l : List Sig} (h : SigsAt w a l) {i : Nat} (hi : i < l.length) : ∃ b off, a = some ⟨b, off, none⟩ ∧ b < w.heap.size ∧ w.cell? ⟨b, off + i * 2, none⟩ = some (.string ⟨l[i].1.toArray⟩) ∧ w.cell? ⟨b, off + i * 2 + 1, none⟩ = some (.int .i64 l[i].2) := by
  obtain ⟨b, off, e, hb, hc⟩ := h.at hi
  exact ⟨b, off, e, hb, hc 0 _ rfl, hc 1 _ rfl⟩
/-- All numbers fit. -/
def FitS (l : List Sig) : Prop := ∀ x ∈ l, -9223372036854775808 ≤ x.2 ∧ x.2 ≤ 9223372036854775807
def nameB (n : Str) (x : Sig) : Bool := x.1 == n
def weightZ (ws : List Sig) (n : Str) : Int := ((ws.find? (nameB n)).map (·.2)).getD 0
def sumZ (ws : List Sig) : List Sig → Int
  | [] => 0
  | x :: r => x.2 * weightZ ws x.1 + sumZ ws r
theorem sumZ_app (ws l m : List Sig) : sumZ ws (l ++ m) = sumZ ws l + sumZ ws m := by
  induction l with
  | nil => simp [sumZ]
  | cons x r ih => simp only [List.cons_append, sumZ, ih]; omega
theorem sumZ_snoc (ws l : List Sig) (k : Nat) (h : k < l.length) : sumZ ws (l.take (k + 1)) = sumZ ws (l.take k) + l[k].2 * weightZ ws l[k].1 := by
  rw [List.take_succ_eq_append_getElem h, sumZ_app]
  simp [sumZ]
def clampZ (n : Int) : Int := if n < 0 then 0 else if 100 < n then 100 else n
theorem weight_yes {ws : List Sig} {n : Str} {i : Nat} (hi : i < ws.length) (hp : nameB n ws[i] = true) (hn : NoneTo (nameB n) ws i) : weightZ ws n = ws[i].2 := by
  have : ws.find? (nameB n) = some ws[i] := by
    rw [List.find?_eq_some_iff_getElem]
    exact ⟨hp, i, hi, rfl, fun j hj => by simpa using hn j hj (by omega)⟩
  unfold weightZ
  rw [this]; rfl
theorem weight_no {ws : List Sig} {n : Str} (h : ∀ x ∈ ws, nameB n x = false) : weightZ ws n = 0 := by
  have : ws.find? (nameB n) = none := by
    rw [List.find?_eq_none]
    exact fun x hx => by simpa using h x hx
  unfold weightZ
  rw [this]; rfl
theorem weight_fit {ws : List Sig} (h : FitS ws) (n : Str) : -9223372036854775808 ≤ weightZ ws n ∧ weightZ ws n ≤ 9223372036854775807 := by
  rcases idx_split (p := nameB n) (l := ws) with ⟨_, hn⟩ | ⟨i, hi, _, hp, hn⟩
  · rw [weight_no hn]; omega
  · rw [weight_yes hi hp hn]; exact h _ (List.getElem_mem _)

set_option maxHeartbeats 400000 in
theorem widelim_any (h l c V : Int) (k : Nat) (hW : WideIs h l c V k) (w : World) :
    Calls Try.prog 34 #[.agg #[.int .u64 h, .int .u64 l, .int .i64 c]] w fun e w' => e = .returned (.int .i64 (clampZ V)) ∧ Kept [] w w' := by
  obtain ⟨a1, a2, a3, a4, a5, a6, a7⟩ := hW
  have HV := hid a7
  by_cases h1 : c < 0
  · have E := hid (show clampZ V = 0 by unfold clampZ; rw [if_pos (by omega)])
    clear a1 a2 a3 a4 a5 a6 a7
    go_enter Try.func34, Try.ntmps34
    go_wp2
    go_ret
    exact ⟨ret_int E.out.symm, (Kept.refl [] w).alloc _⟩
  by_cases h2 : 0 < c
  · have E := hid (show clampZ V = 100 by unfold clampZ; rw [if_neg (by omega), if_pos (by omega)])
    clear a1 a2 a3 a4 a5 a6 a7
    go_enter Try.func34, Try.ntmps34
    go_wp2
    go_ret
    exact ⟨ret_int E.out.symm, (Kept.refl [] w).alloc _⟩
  by_cases h3 : 0 < h
  · have E := hid (show clampZ V = 100 by unfold clampZ; rw [if_neg (by omega), if_pos (by omega)])
    clear a2 a3 a4 a5 a6 a7
    go_enter Try.func34, Try.ntmps34
    go_wp2
    go_ret
    exact ⟨ret_int E.out.symm, (Kept.refl [] w).alloc _⟩
  by_cases h4 : 100 < l
  · have E := hid (show clampZ V = 100 by unfold clampZ; rw [if_neg (by omega), if_pos (by omega)])
    clear a2 a4 a5 a6 a7
    go_enter Try.func34, Try.ntmps34
    go_wp2
    go_ret
    exact ⟨ret_int E.out.symm, (Kept.refl [] w).alloc _⟩
  · have E := hid (show clampZ V = l by unfold clampZ; rw [if_neg (by omega), if_neg (by omega)]; omega)
    have hl : l ≤ 100 := by omega
    clear a2 a4 a5 a6 a7
    go_enter Try.func34, Try.ntmps34
    go_wp2
    go_ret
    exact ⟨ret_int E.out.symm, (Kept.refl [] w).alloc _⟩

set_option maxHeartbeats 400000 in
theorem score1_any (pb : Nat) (n : Str) (x : Sig) (w : World) (hw : w.cell? ⟨pb, 0, none⟩ = some (.string ⟨n.toArray⟩)) :
    Calls Try.prog 32 #[.agg #[.string ⟨x.1.toArray⟩, .int .i64 x.2], .pointer (some ⟨pb, 0, none⟩)] w fun e w' => e = .returned (.bool (nameB n x)) ∧ Kept [] w w' := by
  have hd : (w.alloc (.cells #[.string ⟨x.1.toArray⟩, .int .i64 x.2] 43 (0, 0))).cell? ⟨pb, 0, none⟩ = some (.string ⟨n.toArray⟩) := by
    rw [((Kept.refl [] w).alloc _).cell (World.block_lt_of_cell? w _ hw) (by simp)]; exact hw
  have HB := hid (show nameB n x = (x.1 == n) from rfl)
  go_enter Try.func32, Try.ntmps32
  go_wp2
  go_ret
  exact ⟨ret_bool HB.out.symm, (Kept.refl [] w).alloc _⟩
set_option maxHeartbeats 400000 in
theorem indexSig_any (pb : Nat) (n : Str) {w : World} {a : Option Addr} {cap : Nat} {l : List Sig} (h : SigsAt w a l) (hw : w.cell? ⟨pb, 0, none⟩ = some (.string ⟨n.toArray⟩)) :
    Calls Try.prog 31 #[.slice a l.length cap, .func (.func 32) #[] #[.pointer (some ⟨pb, 0, none⟩)]] w fun e w' => e = .returned (.int .i64 (idx (nameB n) l)) ∧ Kept [] w w' := by
  have hf := h.few
  unfold maxLen at hf
  go_enter Try.func31, Try.ntmps31
  go_wp2_with fail
  go_loopw [5, 8] (fun _ i wr => ∃ k : Nat, k ≤ l.length ∧ i = .int .i64 k ∧ NoneTo (nameB n) l k ∧ Kept [] w wr) (fun _ i _ => l.length - (intOf i).toNat)
  case atStart => exact ⟨0, Nat.zero_le _, rfl, NoneTo.zero _ _, Kept.refl _ _⟩
  case round =>
    obtain ⟨k, hk, rfl, hn, hkw⟩ := hrel
    by_cases hlt : k < l.length
    · obtain ⟨b, off, rfl, hb, hc0, hc1⟩ := SigsAt.get (h.keptN hkw) hlt
      have hb1 : (0 : Int) ≤ k := by omega
      have hb2 : (k : Int) < l.length := by omega
      have HC := hid (score1_any pb n l[k] wr (by rw [hkw.cell (World.block_lt_of_cell? w _ hw) (by simp)]; exact hw))
      cases hp : nameB n l[k]
      · have HP := hid hp
        rw [hp] at HC
        clear hp
        go_wp2_with (go_at_call 32; refine HC.out.mono ?_; rintro e w1 ⟨rfl, k1⟩)
        go_roundw
        case rel => exact ⟨k + 1, by omega, by go_num, hn.next hlt HP.out, hkw.step k1 (by simp)⟩
        case measure => simp [intOf]; omega
      · have HP := hid hp
        rw [hp] at HC
        clear hp
        go_wp2_with (go_at_call 32; refine HC.out.mono ?_; rintro e w1 ⟨rfl, k1⟩)
        go_ret
        exact ⟨ret_int (by rw [idx_yes hn hlt HP.out]), hkw.step k1 (by simp)⟩
    · have hx := hid (idx_no (hn.all (by omega)))
      go_wp2_with fail
      go_ret
      exact ⟨ret_int hx.out.symm, hkw⟩

set_option maxHeartbeats 2000000 in
set_option maxRecDepth 100000 in
theorem score_any {w : World} {a b : Option Addr} {cap cap2 : Nat} {l ws : List Sig} (h : SigsAt w a l) (h2 : SigsAt w b ws) (hl : l.length ≤ 100) (hfl : FitS l) (hfw : FitS ws) :
    Calls Try.prog 11 #[.slice a l.length cap, .slice b ws.length cap2] w fun e w' => e = .returned (.int .i64 (clampZ (sumZ ws l))) ∧ Kept [] w w' := by
  have hf2 := h2.few
  unfold maxLen at hf2
  go_enter Try.func11, Try.ntmps11
  go_wp2_with fail
  go_loopw [11] (fun i wr => ∃ (k : Nat) (hh ll cc : Int), k ≤ l.length ∧ i = .int .i64 k ∧ Kept [] w wr ∧ wr.heap[w.heap.size]? = some (.cells #[.int .u64 hh, .int .u64 ll, .int .i64 cc] 54 (0, 0)) ∧ WideIs hh ll cc (sumZ ws (l.take k)) k) (fun i _ => l.length - (intOf i).toNat)
  case atStart => exact ⟨0, 0, 0, 0, Nat.zero_le _, rfl, (Kept.refl [] w).alloc _, heap_alloc_new w _, WideIs.zero⟩
  case round =>
    obtain ⟨k, hh, ll, cc, hk, rfl, hkw, hbx, hW⟩ := hrel
    have HW := hid hW
    clear hW
    by_cases hlt : k < l.length
    · obtain ⟨b1, off, rfl, hb, hc0, hc1⟩ := SigsAt.get (h.keptN hkw) hlt
      have hb1 : (0 : Int) ≤ k := by omega
      have hb2 : (k : Int) < l.length := by omega
      have hs2 := h2.keptN (hkw.alloc (.cells #[.string ⟨l[k].1.toArray⟩, .int .i64 l[k].2] 43 (0, 0)))
      have hpb := heap_alloc_new wr (.cells #[.string ⟨l[k].1.toArray⟩, .int .i64 l[k].2] 43 (0, 0))
      have HX := hid (indexSig_any (cap := cap2) wr.heap.size l[k].1 hs2 (by rw [cell_at hpb]; rfl))
      have HPB := hid hpb
      have Hsn := hid (sumZ_snoc ws l k hlt)
      clear hpb
      rcases idx_split (p := nameB l[k].1) (l := ws) with ⟨e, hn⟩ | ⟨i, hi, e, hp, hn⟩
      · rw [e] at HX
        have E := hid (weight_no hn)
        clear e hn
        go_wp2_with (go_at_call 31; refine HX.out.mono ?_; rintro e w2 ⟨rfl, k2⟩)
        go_roundw
        case rel =>
          refine ⟨k + 1, hh, ll, cc, by omega, by go_num, (hkw.alloc _).step k2 (by simp), k2.at ((Below.heap_alloc _ _ _ (lt_of_heap hbx)).trans hbx) (by simp), ?_⟩
          rw [Hsn.out, E.out, Int.mul_zero, Int.add_zero]
          obtain ⟨a1, a2, a3, a4, a5, a6, a7⟩ := HW.out
          exact ⟨a1, a2, a3, a4, by omega, by omega, a7⟩
        case measure => simp [intOf]; omega
      · rw [e] at HX
        have E := hid (weight_yes hi hp hn)
        clear e hp hn
        have hi1 : (0 : Int) ≤ i := by omega
        have hi2 : (i : Int) < ws.length := by omega
        have hbx1 := (Below.heap_alloc wr (.cells #[.string ⟨l[k].1.toArray⟩, .int .i64 l[k].2] 43 (0, 0)) _ (lt_of_heap hbx)).trans hbx
        have HBX := hid hbx1
        have HS2 := hid hs2
        clear hbx1 hs2
        have hfit := hid (hfl _ (List.getElem_mem hlt))
        have hfit2 := hid (hfw _ (List.getElem_mem hi))
        go_wp2_with (go_at_call 31; refine HX.out.mono ?_; rintro e w2 ⟨rfl, k2⟩)
        have hbx2 := k2.at HBX.out (by simp)
        have hpb2 := k2.at HPB.out (by simp)
        obtain ⟨b2, off2, rfl, hb2', hd0, hd1⟩ := SigsAt.get (HS2.out.keptN k2) hi
        have c0 : w2.cell? ⟨w.heap.size, 0, none⟩ = some (.int .u64 hh) := by rw [cell_at hbx2]; rfl
        have c1 : w2.cell? ⟨w.heap.size, 1, none⟩ = some (.int .u64 ll) := by rw [cell_at hbx2]; rfl
        have c2 : w2.cell? ⟨w.heap.size, 2, none⟩ = some (.int .i64 cc) := by rw [cell_at hbx2]; rfl
        have s1 : w2.cell? ⟨wr.heap.size, 1, none⟩ = some (.int .i64 l[k].2) := by rw [cell_at hpb2]; rfl
        have HBX2 := hid hbx2
        clear hbx2 hpb2 hbx
        go_still_tail 8, (by kernel_rfl)
        change wpList _ _ _ _ _ w2.drew
        go_wp2_with fail
        refine (wideadd_any hh ll cc _ _ _ k (by omega) HW.out hfit.out.1 hfit.out.2 hfit2.out.1 hfit2.out.2 _).mono ?_
        rintro e w3 ⟨h3, l3, c3, rfl, hW3, k3⟩
        have HW3 := hid hW3
        clear hW3 c0 c1 c2 s1
        have hb3 := k3.at (i := w.heap.size) HBX2.out (by simp)
        have c0 : w3.cell? ⟨w.heap.size, 0, none⟩ = some (.int .u64 hh) := by rw [cell_at hb3]; rfl
        have c1 : w3.cell? ⟨w.heap.size, 1, none⟩ = some (.int .u64 ll) := by rw [cell_at hb3]; rfl
        have c2 : w3.cell? ⟨w.heap.size, 2, none⟩ = some (.int .i64 cc) := by rw [cell_at hb3]; rfl
        have f0 := free_at hb3 0
        have f1 := free_at hb3 1
        have f2 := free_at hb3 2
        have HB3 := hid hb3
        clear hb3
        go_wp2_with fail
        go_roundw
        case rel =>
          refine ⟨k + 1, h3, l3, c3, by omega, by go_num, ((((((hkw.alloc _).step k2 (by simp)).drew).step k3 (by simp)).setCell (.inr (by simp)) _).setCell (.inr (by simp)) _).setCell (.inr (by simp)) _, ?_, ?_⟩
          · have := HB3.out
            simp [World.setCell, Array.getElem?_modify, this]
          · have := HW3.out
            rw [Hsn.out, E.out]
            exact this
        case measure => simp [intOf]; omega
    · have e1 : l.take k = l := List.take_of_length_le (by omega)
      rw [e1] at HW
      have c0 : wr.cell? ⟨w.heap.size, 0, none⟩ = some (.int .u64 hh) := by rw [cell_at hbx]; rfl
      have c1 : wr.cell? ⟨w.heap.size, 1, none⟩ = some (.int .u64 ll) := by rw [cell_at hbx]; rfl
      have c2 : wr.cell? ⟨w.heap.size, 2, none⟩ = some (.int .i64 cc) := by rw [cell_at hbx]; rfl
      go_wp2_with (go_at_call 34; refine (widelim_any _ _ _ _ _ HW.out _).mono ?_; rintro e w2 ⟨rfl, k2⟩)
      go_ret
      exact ⟨rfl, hkw.step k2 (by simp)⟩
end Go.Proofs.Ytbcbffmbpoffpaa

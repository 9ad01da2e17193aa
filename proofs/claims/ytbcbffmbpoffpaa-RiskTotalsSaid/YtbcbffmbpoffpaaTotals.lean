/- RiskTotals: the walk. -/
import Derived.Test.YtbcbffmbpoffpaaScores
import Derived.Test.YtbcbffmbpoffpaaSig
namespace Go.Proofs.Ytbcbffmbpoffpaa
open Go.RowKit Go.Maps Go.ChangeShapes Go.WideShapes Go.ChangeAt

def posB (x : Sig) : Bool := decide (0 ≤ x.2)
theorem sumZ_rev (ws l : List Sig) : sumZ ws l.reverse = sumZ ws l := by
  induction l with
  | nil => rfl
  | cons x r ih => rw [List.reverse_cons, sumZ_app, ih]; simp only [sumZ]; omega
theorem sumZ_none (l : List Sig) : sumZ [] l = 0 := by
  induction l with
  | nil => rfl
  | cons x r ih => simp only [sumZ, ih]; simp [weightZ]
theorem clamp_bd (n : Int) : 0 ≤ clampZ n ∧ clampZ n ≤ 100 := by
  unfold clampZ
  split
  · omega
  · split <;> omega
theorem clamp_mono {a b : Int} (h : a ≤ b) : clampZ a ≤ clampZ b := by
  unfold clampZ
  split <;> split <;> (try split) <;> (try split) <;> omega
theorem weight_pos {ws : List Sig} (h : ws.all posB = true) (n : Str) : 0 ≤ weightZ ws n := by
  rcases idx_split (p := nameB n) (l := ws) with ⟨_, hn⟩ | ⟨i, hi, _, hp, hn⟩
  · rw [weight_no hn]; omega
  · rw [weight_yes hi hp hn]
    have := List.all_eq_true.1 h _ (List.getElem_mem hi)
    simpa [posB] using this
theorem more_pos {ws l : List Sig} {x : Sig} (h : ws.all posB = true) (hx : posB x = true) : clampZ (sumZ ws l) ≤ clampZ (sumZ ws (l ++ [x])) := by
  refine clamp_mono ?_
  rw [sumZ_app]
  have h1 := weight_pos h x.1
  have h2 : 0 ≤ x.2 := by simpa [posB] using hx
  have := Int.mul_nonneg h2 h1
  simp only [sumZ]
  omega
theorem sig_agg {H : Type} {enc : TypeId × Value → H} {r : Reach} {b0 : Nat} {w : World} {v : Value} {d : DataW H} {p : List MemPlace} (hv : Value.okWide Try.prog w r b0 43 v)
    (h : DataW.Trod enc Try.prog w 0 (fun _ => true) true 43 v d p) : ∃ x : Sig, v = .agg #[.string ⟨x.1.toArray⟩, .int .i64 x.2] ∧ (-9223372036854775808 ≤ x.2 ∧ x.2 ≤ 9223372036854775807) := by
  obtain ⟨c0, c1, y0, y1, n, rfl, _, _, f0, f1⟩ := Joins.open_agg2 Try.underlying43 (by kernel_rfl) (by kernel_rfl) hv h
  obtain ⟨n0, e0, _⟩ := DataW.trod_string Try.underlying9 f0
  obtain ⟨n1, e1, hn1⟩ := DataW.trod_int Try.underlying3 f1
  obtain ⟨_, hw⟩ := hn1
  simp at e0 e1
  exact ⟨(n0.data.toList, n1), by rw [e0, e1], int_bd hw⟩
theorem size_str' (x : Str) : (⟨x.toArray⟩ : ByteArray).size = x.length := by simp [ByteArray.size]
theorem drop_rev {l : List Sig} {k : Nat} (h : k < l.length) : (l.drop k).reverse = (l.drop (k + 1)).reverse ++ [l[k]] := by
  rw [List.drop_eq_getElem_cons h, List.reverse_cons]
theorem drop_all {l : List Sig} {k : Nat} (h : k < l.length) : (l.drop k).all posB = (posB l[k] && (l.drop (k + 1)).all posB) := by
  rw [List.drop_eq_getElem_cons h, List.all_cons]
theorem take_all {l : List Sig} {k : Nat} (h : k < l.length) : (l.take (k + 1)).all posB = ((l.take k).all posB && posB l[k]) := by
  rw [List.take_succ_eq_append_getElem h, List.all_append, List.all_cons, List.all_nil, Bool.and_true]

set_option maxHeartbeats 2000000 in
set_option maxRecDepth 100000 in
theorem totals_walk {w : World} {a b : Option Addr} {cap cap2 : Nat} {l ws : List Sig} (h : SigsAt w a l ∧ FitS l) (h2 : SigsAt w b ws ∧ FitS ws) (x : Sig) (hx : -9223372036854775808 ≤ x.2 ∧ x.2 ≤ 9223372036854775807) :
    Calls Try.prog 5 #[.slice a l.length cap, .slice b ws.length cap2, .agg #[.string ⟨x.1.toArray⟩, .int .i64 x.2]] w fun e w' => e = .returned (.bool true) ∧ Below w.heap.size w w' := by
  have hbx := heap_alloc_new w (.cells #[.string ⟨x.1.toArray⟩, .int .i64 x.2] 43 (0, 0))
  have hk0 := (Kept.refl [] w).alloc (.cells #[.string ⟨x.1.toArray⟩, .int .i64 x.2] 43 (0, 0))
  obtain ⟨w0, HW0⟩ : ∃ w0, Hid (w0 = w.alloc (.cells #[.string ⟨x.1.toArray⟩, .int .i64 x.2] 43 (0, 0))) := ⟨_, hid rfl⟩
  rw [← HW0.out] at hbx hk0
  have hc0 := cell_at hbx 0
  have hc1 := cell_at hbx 1
  simp at hc0 hc1
  have hz := size_str' x.1
  have HBX := hid hbx
  have HK0 := hid hk0
  have hsl := hid (h.1.keptN hk0)
  have hsw := hid (h2.1.keptN hk0)
  have hfl := hid h.2
  have hfw := hid h2.2
  have HX := hid hx
  have hf1 := hid (few_any (cap := cap) hsl.out)
  have hf2 := hid (few_any (cap := cap2) hsw.out)
  clear h h2 hx hbx hk0
  by_cases t1 : fewB l = true
  · rw [t1] at hf1
    by_cases t2 : fewB ws = true
    · rw [t2] at hf2
      by_cases t3 : 100 < x.1.length
      · go_enter Try.func5, Try.ntmps5
        go_wp2_with fail
        rw [← HW0.out]
        refine hf1.out.mono ?_
        rintro e w' ⟨rfl, rfl⟩
        go_wp2_with fail
        refine hf2.out.mono ?_
        rintro e w' ⟨rfl, rfl⟩
        go_wp2_with fail
        refine (alive_any _).mono ?_
        rintro e w5 ⟨rfl, k5⟩
        go_wp2_with fail
        go_ret
        exact ⟨rfl, (HK0.out.step k5 (by simp)).bel⟩
      · have L1 := few_len t1
        have L2 := few_len t2
        clear t1 t2
        go_enter Try.func5, Try.ntmps5
        go_wp2_with fail
        rw [← HW0.out]
        refine hf1.out.mono ?_
        rintro e w' ⟨rfl, rfl⟩
        go_wp2_with fail
        refine hf2.out.mono ?_
        rintro e w' ⟨rfl, rfl⟩
        have HC0 := hid hc0
        have HNN := hid (show posB x = decide (0 ≤ x.2) from rfl)
        go_wp2_with fail
        go_loopw [7, 9, 10] (fun v p i wr => ∃ (k : Nat) (a' : Option Addr) (cap' : Nat) (pb : Bool), k ≤ l.length ∧ i = .int .i64 ((k : Int) - 1) ∧ p = .bool pb ∧ pb = (posB x && (l.drop k).all posB) ∧ v = .slice a' (l.drop k).reverse.length cap' ∧ OwnL 43 2 encG w0 wr a' cap' (l.drop k).reverse) (fun _ _ i _ => (intOf i + 1).toNat)
        case atStart =>
          refine ⟨l.length, none, 0, posB x, Nat.le_refl _, by go_num, ?_, by simp, by simp, ?_⟩
          · rw [HNN.out]
          · rw [List.drop_length]; exact OwnL.start w0
        case round =>
          obtain ⟨k, a', cap', pb, hk, rfl, rfl, hpb, rfl, ho⟩ := hrel
          rcases k with _ | k
          · rw [List.drop_zero] at ho hpb ⊢
            have hkp := ho.kept
            have HO := hid ho
            have HB := hid hpb
            clear ho hpb hk
            obtain ⟨R, HR⟩ : ∃ R, Hid (R = l.reverse) := ⟨_, hid rfl⟩
            rw [← HR.out] at HO ⊢
            obtain ⟨Q, HQ⟩ : ∃ Q, Hid (Q = pb) := ⟨_, hid rfl⟩
            rw [← HQ.out] at HB ⊢
            have HSW2 := hid (hsw.out.keptN hkp)
            have HSL2 := hid (hsl.out.keptN hkp)
            clear HQ
            go_wp2_with fail
            go_loop [9, 11] (fun p i => ∃ (k : Nat) (pb : Bool), k ≤ ws.length ∧ i = .int .i64 k ∧ p = .bool pb ∧ pb = (Q && (ws.take k).all posB)) (fun _ i => ws.length - (intOf i).toNat)
            case atStart => exact ⟨0, Q, Nat.zero_le _, rfl, rfl, by simp⟩
            case round =>
              obtain ⟨k, pb2, hk, rfl, rfl, hpb⟩ := hrel
              by_cases hlt : k < ws.length
              · obtain ⟨b', off, rfl, hb, hd0, hd1⟩ := SigsAt.get HSW2.out hlt
                have hb1 : (0 : Int) ≤ k := by omega
                have hb2 : (k : Int) < ws.length := by omega
                have HA := hid (take_all hlt)
                have HP := hid (show posB ws[k] = decide (0 ≤ ws[k].2) from rfl)
                have HB2 := hid hpb
                clear hpb hd0
                cases pb2
                · go_wp2_with fail
                  go_round
                  case rel => exact ⟨k + 1, false, by omega, by go_num, rfl, by rw [HA.out, ← Bool.and_assoc, ← HB2.out, Bool.false_and]⟩
                  case measure => simp [intOf]; omega
                · go_wp2_with fail
                  go_round
                  case rel => exact ⟨k + 1, posB ws[k], by omega, by go_num, by rw [HP.out], by rw [HA.out, ← Bool.and_assoc, ← HB2.out, Bool.true_and]⟩
                  case measure => simp [intOf]; omega
              · have hall : pb2 = (Q && ws.all posB) := by rw [hpb, List.take_of_length_le (by omega)]
                have HALL := hid hall
                have hge : ¬ (k : Int) < ws.length := by omega
                clear hpb hall
                obtain ⟨N, HN⟩ : ∃ N, Hid (N = clampZ (sumZ ws l)) := ⟨_, hid rfl⟩
                obtain ⟨M0, HM0⟩ : ∃ M, Hid (M = [] ++ l) := ⟨_, hid rfl⟩
                obtain ⟨M, HM⟩ : ∃ M, Hid (M = M0 ++ [x]) := ⟨_, hid rfl⟩
                obtain ⟨V, HV⟩ : ∃ V, Hid (V = clampZ (sumZ ws M)) := ⟨_, hid rfl⟩
                have HM2 := hid (show M = l ++ [x] by rw [HM.out, HM0.out]; rfl)
                have HL0 := hid (show M0.length ≤ 20 by rw [HM0.out]; simpa using L1)
                have HL := hid (show M.length ≤ 100 by rw [HM2.out]; simp; omega)
                have HLR := hid (show R.length ≤ 100 by rw [HR.out]; simp; omega)
                have hfR : FitS R := by rw [HR.out]; exact fun y hy => hfl.out y (by simpa using hy)
                have hfM : FitS M := by
                  rw [HM2.out]
                  intro y hy
                  rcases List.mem_append.1 hy with hy | hy
                  · exact hfl.out y hy
                  · simp at hy; rw [hy]; exact HX.out
                have hs1 := fun wq (k : Kept [] w0 wq) => score_any (cap := cap) (cap2 := cap2) (hsl.out.keptN k) (hsw.out.keptN k) (by omega) hfl.out hfw.out
                rw [← HN.out] at hs1
                have hs2 := fun wq (k : Kept [] w0 wq) a' c' (s : SigsAt wq a' R) => score_any (cap := c') (cap2 := cap2) s (hsw.out.keptN k) HLR.out hfR hfw.out
                rw [show clampZ (sumZ ws R) = N by rw [HN.out, HR.out, sumZ_rev]] at hs2
                have hs3 : ∀ wq (k : Kept [] w0 wq), Calls Try.prog 11 #[.slice none 0 0, .slice b ws.length cap2] wq fun e w' => e = .returned (.int .i64 0) ∧ Kept [] wq w' := fun wq k => score_any (l := []) (cap := 0) (cap2 := cap2) (list_nil wq none) (hsw.out.keptN k) (by simp) (fun y hy => by simp at hy) hfw.out
                have hs4 : ∀ wq (k : Kept [] w0 wq), Calls Try.prog 11 #[.slice a l.length cap, .slice none 0 0] wq fun e w' => e = .returned (.int .i64 0) ∧ Kept [] wq w' := fun wq k => by
                  have := score_any (ws := []) (cap := cap) (cap2 := 0) (hsl.out.keptN k) (list_nil wq none) (by omega) hfl.out (fun y hy => by simp at hy)
                  rw [sumZ_none] at this
                  exact this
                have hs5 := fun wq (k : Kept [] w0 wq) a' c' (s : SigsAt wq a' M) => score_any (cap := c') (cap2 := cap2) s (hsw.out.keptN k) HL.out hfM hfw.out
                rw [← HV.out] at hs5
                have HS1 := hid hs1
                have HS2 := hid hs2
                have HS3 := hid hs3
                have HS4 := hid hs4
                have HS5 := hid hs5
                clear hs1 hs2 hs3 hs4 hs5 hfR hfM
                have n1 : 0 ≤ N := by rw [HN.out]; exact (clamp_bd _).1
                have n2 : N ≤ 100 := by rw [HN.out]; exact (clamp_bd _).2
                have n3 : (N == N) = true := beq_self_eq_true _
                have HVN := hid (show pb2 = true → N ≤ V from fun e => by
                  rw [HALL.out, HB.out] at e
                  simp only [Bool.and_eq_true] at e
                  rw [HN.out, HV.out, HM2.out]
                  exact more_pos e.2 e.1.1)
                have HKP := hid hkp
                clear hkp
                go_wp2_with (first
                  | (at_builtin; refine wp_appL encGOk Try.underlying22 HM.out (o5.later ((Kept.refl [] w5).alloc _)) (list_box encGOk (l := [x]) (heap_alloc_new w5 (.cells #[.string ⟨x.1.toArray⟩, .int .i64 x.2] 43 (0, 0))) (by simp [rowV, encG, sV]) (by simp [maxLen])) (by have := HL0.out; simp; omega) rfl _ _ rfl rfl rfl rfl rfl ?_; intro a6 c6 w6 o6 k6 f6)
                  | (at_builtin; refine wp_appL encGOk Try.underlying22 HM0.out (OwnL.start wr) HSL2.out (by simp; omega) rfl _ _ rfl rfl rfl rfl rfl ?_; intro a5 c5 w5 o5 k5 f5; have hg0 := ((HKP.out.step o5.kept (by simp)).cell (p := ⟨w.heap.size, 0, none⟩) (lt_of_heap HBX.out) (by simp)).trans hc0; have hg1 := ((HKP.out.step o5.kept (by simp)).cell (p := ⟨w.heap.size, 1, none⟩) (lt_of_heap HBX.out) (by simp)).trans hc1))
                have K6 := hid (HKP.out.step o6.kept (by simp))
                have HB6 := hid ((HO.out.later o6.kept))
                have HO6 := hid o6
                clear o6 k6 f6 o5 k5 f5 hg0 hg1 hc0 hc1
                refine (HS1.out _ K6.out).mono ?_
                rintro e w7 ⟨rfl, k7⟩
                go_wp2_with fail
                refine (HS2.out _ (K6.out.step k7 (by simp)) _ _ ((HB6.out.later k7).seq encGOk)).mono ?_
                rintro e w8 ⟨rfl, k8⟩
                go_wp2_with fail
                refine (HS3.out _ ((K6.out.step k7 (by simp)).step k8 (by simp))).mono ?_
                rintro e w9 ⟨rfl, k9⟩
                go_wp2_with fail
                refine (HS4.out _ (((K6.out.step k7 (by simp)).step k8 (by simp)).step k9 (by simp))).mono ?_
                rintro e wA ⟨rfl, kA⟩
                have KA := hid ((((K6.out.step k7 (by simp)).step k8 (by simp)).step k9 (by simp)).step kA (by simp))
                have HOA := hid (((((HO6.out.later k7).later k8).later k9).later kA).seq encGOk)
                cases pb2
                · go_wp2_with fail
                  refine (alive_any _).mono ?_
                  rintro e wB ⟨rfl, kB⟩
                  go_wp2_with fail
                  go_ret
                  exact ⟨rfl, (HK0.out.step (KA.out.step kB (by simp)) (by simp)).bel⟩
                · have hv := HVN.out rfl
                  go_wp2_with fail
                  refine (HS5.out _ KA.out _ _ HOA.out).mono ?_
                  rintro e wC ⟨rfl, kC⟩
                  go_wp2_with fail
                  refine (alive_any _).mono ?_
                  rintro e wB ⟨rfl, kB⟩
                  go_wp2_with fail
                  go_ret
                  exact ⟨rfl, (HK0.out.step ((KA.out.step kC (by simp)).step kB (by simp)) (by simp)).bel⟩
          · have hi : (((k + 1 : Nat) : Int) - 1) = (k : Int) := by omega
            rw [hi]
            have hlt : k < l.length := by omega
            obtain ⟨b, off, rfl, hb, hd0, hd1⟩ := SigsAt.get hsl.out hlt
            have he0 := (ho.kept.cell hb (by simp)).trans hd0
            have he1 := (ho.kept.cell hb (by simp)).trans hd1
            have hb1 : (0 : Int) ≤ k := by omega
            have hb2 : (k : Int) < l.length := by omega
            have HE := hid (drop_rev hlt)
            have HA := hid (drop_all hlt)
            have hle : (l.drop (k + 1)).reverse.length ≤ 20 := by simp; omega
            obtain ⟨D, HD⟩ : ∃ D, Hid (D = (l.drop (k + 1)).reverse) := ⟨_, hid rfl⟩
            obtain ⟨q, HQ⟩ : ∃ q, Hid (q = (l.drop (k + 1)).all posB) := ⟨_, hid rfl⟩
            rw [← HD.out] at ho hle ⊢
            have HB := hid hpb
            have HO := hid ho
            have hbx := list_box encGOk (l := [l[k]]) (heap_alloc_new wr (.cells #[.string ⟨l[k].1.toArray⟩, .int .i64 l[k].2] 43 (0, 0))) (by simp [rowV, encG, sV]) (by simp [maxLen])
            have HBX2 := hid hbx
            have HB9 := hid hb
            have HD1 := hid hd1
            clear hpb ho hbx hd0 hd1 hb
            obtain ⟨M, HM⟩ : ∃ M, Hid (M = D ++ [l[k]]) := ⟨_, hid rfl⟩
            have HP := hid (show posB l[k] = decide (0 ≤ l[k].2) from rfl)
            cases pb
            · go_wp2_with (at_builtin; refine wp_appL encGOk Try.underlying22 HM.out (HO.out.later ((Kept.refl [] wr).alloc _)) HBX2.out (by simp; omega) rfl _ _ rfl rfl rfl rfl rfl ?_; intro a4 c4 w4 o4 k4 f4)
              go_roundw
              case rel =>
                have e : (l.drop k).reverse = M := by rw [HE.out, HM.out, HD.out]
                exact ⟨k, a4, c4, false, by omega, by go_num, rfl, by rw [HA.out, Bool.and_left_comm, ← HB.out, Bool.and_false], by rw [e], by rw [e]; exact o4⟩
              case measure => simp [intOf]
            · go_wp2_with (at_builtin; refine wp_appL encGOk Try.underlying22 HM.out (HO.out.later ((Kept.refl [] wr).alloc _)) HBX2.out (by simp; omega) rfl _ _ rfl rfl rfl rfl rfl ?_; intro a4 c4 w4 o4 k4 f4; have hg1 := (o4.kept.cell HB9.out (by simp)).trans HD1.out)
              go_roundw
              case rel =>
                have e : (l.drop k).reverse = M := by rw [HE.out, HM.out, HD.out]
                exact ⟨k, a4, c4, posB l[k], by omega, by go_num, by rw [HP.out], by rw [HA.out, Bool.and_left_comm, ← HB.out, Bool.and_true], by rw [e], by rw [e]; exact o4⟩
              case measure => simp [intOf]
    · rw [Bool.not_eq_true] at t2
      rw [t2] at hf2
      clear t1 t2
      go_enter Try.func5, Try.ntmps5
      go_wp2_with fail
      rw [← HW0.out]
      refine hf1.out.mono ?_
      rintro e w' ⟨rfl, rfl⟩
      go_wp2_with fail
      refine hf2.out.mono ?_
      rintro e w' ⟨rfl, rfl⟩
      go_wp2_with fail
      refine (alive_any _).mono ?_
      rintro e w5 ⟨rfl, k5⟩
      go_wp2_with fail
      go_ret
      exact ⟨rfl, (HK0.out.step k5 (by simp)).bel⟩
  · rw [Bool.not_eq_true] at t1
    rw [t1] at hf1
    clear t1
    go_enter Try.func5, Try.ntmps5
    go_wp2_with fail
    rw [← HW0.out]
    refine hf1.out.mono ?_
    rintro e w' ⟨rfl, rfl⟩
    go_wp2_with fail
    refine (alive_any _).mono ?_
    rintro e w5 ⟨rfl, k5⟩
    go_wp2_with fail
    go_ret
    exact ⟨rfl, (HK0.out.step k5 (by simp)).bel⟩
end Go.Proofs.Ytbcbffmbpoffpaa

/- LogoutCounts, walked: it returns true. -/
import Derived.Test.YtdikijbkfhimoaaCountP
import Derived.Test.YtdikijbkfhimoaaOrders
namespace Go.Proofs.Ytdikijbkfhimoaa
open Go.RowKit Go.Maps

theorem shortB_ok {l : List Str} (h : shortB l = true) : l.length ≤ 10 ∧ ∀ c ∈ l, c.length ≤ 100 := by
  unfold shortB at h
  simp only [Bool.and_eq_true, List.all_eq_true, decide_eq_true_eq] at h
  exact ⟨h.2, h.1⟩
set_option maxRecDepth 100000 in
theorem eq_arr (a b c : Int) (w : World) : (Op.equalIn 10000 51 (.agg #[.int .i64 a, .int .i64 b, .int .i64 c]) (.agg #[.int .i64 a, .int .i64 b, .int .i64 c])).run Try.prog w = .ok true w := by
  have u3 := Try.underlying3
  have a3 := Try.isAgg3
  have z3 := Try.sizeOf3
  rw [show (10000 : Nat) = 9999 + 1 from rfl, Op.equalIn]
  simp only [Sem.run_bind, run_underlying Try.underlying51, Result.andThen_ok]
  simp only [Std.Legacy.Range.forIn_eq_forIn_range', Std.Legacy.Range.size, Nat.sub_zero, Nat.add_sub_cancel, Nat.div_one, List.range'_succ, List.range'_zero, List.forIn_cons, List.forIn_nil]
  go_simp
theorem St.guard {w0 w w' : World} {lb mb most delay : Nat} {U : Log} {p : List (Nat × Obj)} (h : St w0 w lb mb most delay U p) (k : Kept [] w w') {g : Nat} {o : Obj} (hg : w.heap.size ≤ g) (ho : w'.heap[g]? = some o) : St w0 w' lb mb most delay U ((g, o) :: p) := by
  obtain ⟨X, h1, e, k0, hd, hp⟩ := h.st
  refine ⟨X, h1.keptN k, e, k0.step k (by simp), hd, fun q hq => ?_⟩
  rcases List.mem_cons.1 hq with rfl | hq
  · exact ⟨fun hm => by have := h1.lt _ hm; simp only at this; omega, ho⟩
  · exact ⟨(hp q hq).1, k.at (hp q hq).2 (by simp)⟩
theorem St.at {w0 w : World} {lb mb most delay : Nat} {U : Log} {p : List (Nat × Obj)} (h : St w0 w lb mb most delay U p) {g : Nat} {o : Obj} (hg : (g, o) ∈ p) : w.heap[g]? = some o := by
  obtain ⟨X, h1, e, k0, hd, hp⟩ := h.st
  exact (hp _ hg).2
set_option maxHeartbeats 8000000 in
set_option maxRecDepth 100000 in
theorem counts_walk {w : World} {a0 : Option Addr} {cap0 : Nat} {cl : List Str} (hc : StrsAt w a0 cl ∧ cl.length ≤ cap0) {a : Option Addr} {cap : Nat} {l : List OpD} (h : OpsAt w a l) :
    Calls Try.prog 5 #[.slice a0 cl.length cap0, .slice a l.length cap] w fun e w' => e = .returned (.bool true) ∧ Below w.heap.size w w' := by
  have HSH := hid (short_any (cap := cap0) hc.1)
  have HF := hid (few_any (cap := cap) h)
  have HH := hid h
  have HC := hid hc
  have hf := h.cells.few
  unfold maxLen at hf
  clear h hc
  cases hsw : shortB cl with
  | false =>
    rw [hsw] at HSH
    clear hsw
    go_enter Try.func5, Try.ntmps5
    go_wp2_with (first
      | (go_at_call 30; refine HSH.out.mono ?_; rintro e w1 ⟨rfl, rfl⟩)
      | (go_at_call 10; refine (alive_any _).mono ?_; rintro e w2 ⟨rfl, hk2⟩))
    go_ret
    exact ⟨rfl, hk2.toBelow (by simp)⟩
  | true =>
  have HSO := hid (shortB_ok hsw)
  rw [hsw] at HSH
  clear hsw
  cases hfw : fewB l with
  | false =>
    rw [hfw] at HF
    clear hfw
    go_enter Try.func5, Try.ntmps5
    go_wp2_with (first
      | (go_at_call 30; refine HSH.out.mono ?_; rintro e w1 ⟨rfl, rfl⟩)
      | (go_at_call 9; refine HF.out.mono ?_; rintro e w1 ⟨rfl, hk1⟩)
      | (go_at_call 10; refine (alive_any _).mono ?_; rintro e w2 ⟨rfl, hk2⟩))
    go_ret
    exact ⟨rfl, (hk1.step hk2 (by simp)).toBelow (by simp)⟩
  | true =>
  have HOK := hid (fewB_ok hfw)
  rw [hfw] at HF
  clear hfw
  have HMS := hid (show (⟨#[109, 105, 110, 101]⟩ : ByteArray).data.toList = mineS from rfl)
  have HMZ := hid (show (⟨#[109, 105, 110, 101]⟩ : ByteArray).size ≤ maxLen by simp [ByteArray.size, maxLen])
  by_cases hb0 : beginE [] mineS cl = 0
  · have HB := hid (mine_start hb0 50)
    have HBE := hid hb0
    clear hb0
    go_enter Try.func5, Try.ntmps5
    go_wp2_with (first
      | (go_at_call 30; refine HSH.out.mono ?_; rintro e w1 ⟨rfl, rfl⟩)
      | (go_at_call 9; refine HF.out.mono ?_; rintro e w1 ⟨rfl, hk1⟩)
      | (go_at_call 11; refine (new_st hk1 (most := 2) (delay := 5) (by omega) (by omega) (by omega) (by omega)).mono ?_; rintro e w2 ⟨lb, mb, rfl, h2⟩; have H2 := hid h2; clear h2 hk1)
      | (go_at_call 13; refine (begin_st H2.out ⟨#[109, 105, 110, 101]⟩ HMZ.out (HC.out.1.keptN H2.out.kept) (fun c hc => by have := HSO.out.2 c hc; omega) HC.out.2 50).mono ?_; rw [HMS.out, HBE.out]; rintro e w3 ⟨rfl, h3⟩; have H3 := hid h3; clear h3))
    go_loopw [10] (fun i wr => ∃ k : Nat, k ≤ l.length ∧ i = .int .i64 (k : Int) ∧ ∃ U, St w wr lb mb 2 5 U [] ∧ Hid (Mine cl.length U)) (fun i _ => l.length - (intOf i).toNat)
    case atStart => exact ⟨0, Nat.zero_le _, rfl, _, H3.out, HB⟩
    case round =>
      obtain ⟨k, hk, rfl, U, hS, HM⟩ := hrel
      have HS := hid hS
      clear hS
      by_cases hlt : k < l.length
      · obtain ⟨b, off, rfl, hb, hc, hL⟩ := HH.out.get hlt
        have hb1 : (0 : Int) ≤ k := by omega
        have hb2 : (k : Int) < l.length := by omega
        have hsm := small_of (HOK.out.2 _ (List.getElem_mem hlt))
        generalize l[k] = x at *
        have HPL := hid (play_st HS.out x (hL.keptN HS.out.kept) hsm)
        have HPM := hid (HM.out.play (most := 2) (delay := 5) x)
        have HLX := hid hL
        have HSM := hid hsm
        have HCX := hid (fun (W : World) (kw : Kept [] w W) => show OpCells W b (off + k * 5) x from ⟨(kw.cell (p := ⟨b, _, none⟩) hb (by simp)).trans hc.c0, (kw.cell (p := ⟨b, _, none⟩) hb (by simp)).trans hc.c1, (kw.cell (p := ⟨b, _, none⟩) hb (by simp)).trans hc.c2, (kw.cell (p := ⟨b, _, none⟩) hb (by simp)).trans hc.c3, (kw.cell (p := ⟨b, _, none⟩) hb (by simp)).trans hc.c4⟩)
        obtain ⟨c0, c1, c2, c3, c4⟩ := HCX.out wr HS.out.kept
        unfold encO sV at HPL
        obtain ⟨sx, sy, sz, HST⟩ : ∃ sx sy sz, Hid (statS (playU 2 5 U x) mineS = (sx, sy, sz)) := ⟨_, _, _, hid rfl⟩
        obtain ⟨G, HGE⟩ : ∃ G, Hid (givenL (playU 2 5 U x) mineS = G) := ⟨_, hid rfl⟩
        have hsum := HPM.out.sum
        rw [HST.out] at hsum
        dsimp only at hsum
        have hc10 := HSO.out.1
        have s1 : (0 : Int) ≤ sx := by omega
        have s2 : (0 : Int) ≤ sy := by omega
        have s3 : (0 : Int) ≤ sz := by omega
        have s4 : (sx : Int) ≤ 10 := by omega
        have s5 : (sy : Int) ≤ 10 := by omega
        have s6 : (sz : Int) ≤ 10 := by omega
        have s7 : (sx : Int) + sy + sz = cl.length := by omega
        have HGA := hid (fun (W : World) (h : St w W lb mb 2 5 (playU 2 5 U x) []) => HPM.out.given h.good)
        clear hL hsm hc hsum hc10
        go_wp2_with (first
          | (go_at_call 29; refine HPL.out.mono ?_; rintro e w3 ⟨m, a3, cap3, _, rfl, _, _, h3⟩; have H4 := hid (h3.sub (p' := []) (by simp)); clear h3)
          | (go_at_call 22; refine (status_st H4.out ⟨#[109, 105, 110, 101]⟩ HMZ.out).mono ?_; rw [HMS.out, HST.out]; rintro e w4 ⟨rfl, h4⟩; have H5 := hid h4; clear h4)
          | (go_at_call 25; refine (given_st H5.out ⟨#[109, 105, 110, 101]⟩ HMZ.out).mono ?_; rw [HMS.out, HGE.out]; rintro e w5 ⟨ag, cg, rfl, qg, rg, kg, h5⟩; have HG := hid qg; have H6 := hid (h5.sub (p' := []) (by simp)); have gl := (HGA.out w5 H6.out).1; rw [HST.out, HGE.out] at gl; dsimp only at gl; subst gl; have HGP := hid (HGA.out w5 H6.out).2; rw [HGE.out] at HGP; clear qg rg kg h5))
        clear c0 c1 c2 c3 c4
        go_loopw [15] (fun jv wq => ∃ j : Nat, 1 ≤ j ∧ j ≤ 11 ∧ jv = .int .i64 (j : Int) ∧ Kept [] w5 wq) (fun jv _ => G.length - (intOf jv).toNat)
        case atStart => exact ⟨1, by omega, by omega, rfl, Kept.refl _ _⟩
        case round =>
          obtain ⟨j, hj1, hj2, rfl, hkq⟩ := hrel
          have HKQ := hid hkq
          by_cases hjl : j < G.length
          · rcases j with _ | i
            · omega
            · obtain ⟨b1, off1, rfl, _, d1⟩ := StrsAt.get (HG.out.keptN hkq) hjl
              obtain ⟨b3, off3, e3, _, d0⟩ := StrsAt.get (HG.out.keptN hkq) (show i < G.length by omega)
              injection e3 with e3
              injection e3 with e3 e4 _
              subst e3
              subst e4
              have q1 : (0 : Int) ≤ i := by omega
              have q2 : (i : Int) + 1 < G.length := by omega
              have q3 : ((i : Int) + 1).toNat = i + 1 := by omega
              have q4 : (0 : Int) ≤ (i : Int) + 1 := by omega
              have q5 : (i : Int) < G.length := by omega
              have q7 := wrap_nat i (by omega)
              have z1 : Op.bytesLess G[i] G[i + 1] = true := by rw [less_eq]; exact decide_eq_true (List.pairwise_iff_getElem.1 HGP.out i (i + 1) (by omega) hjl (by omega))
              generalize G[i] = g1 at *
              generalize G[i + 1] = g2 at *
              unfold sV at d0 d1
              clear hkq
              go_wp2_with fail
              go_quiet (fail)
              go_wp2_with fail
              go_roundw
              case rel => exact ⟨i + 2, by omega, by omega, by go_num, HKQ.out.drewN _⟩
              case measure => simp [intOf]; omega
          · have HQ := hid (H6.out.keptN hkq)
            obtain ⟨c0, c1, c2, c3, c4⟩ := HCX.out wr HQ.out.kept
            have hj3 : (G.length : Int) ≤ j := by omega
            have hj4 : decide ((j : Int) < G.length) = false := decide_eq_false (by omega)
            clear hkq
            have e0 := fun o => (HCX.out (wr.alloc o) (HQ.out.kept.step ((Kept.refl [] wr).alloc o) (by simp))).c0
            have e1 := fun o => (HCX.out (wr.alloc o) (HQ.out.kept.step ((Kept.refl [] wr).alloc o) (by simp))).c1
            have e2 := fun o => (HCX.out (wr.alloc o) (HQ.out.kept.step ((Kept.refl [] wr).alloc o) (by simp))).c2
            have e3 := fun o => (HCX.out (wr.alloc o) (HQ.out.kept.step ((Kept.refl [] wr).alloc o) (by simp))).c3
            have e4 := fun o => (HCX.out (wr.alloc o) (HQ.out.kept.step ((Kept.refl [] wr).alloc o) (by simp))).c4
            by_cases hi : x.id = mineS
            · have n1 : (x.id == [109, 105, 110, 101]) = true := by rw [hi]; rfl
              clear hi
              go_wp2_with fail
              go_roundw
              case rel => exact ⟨k + 1, by omega, by go_num, _, HQ.out.keptN ((Kept.refl [] wr).alloc _), HPM⟩
              case measure => simp [intOf]; omega
            · have n1 : (x.id == [109, 105, 110, 101]) = false := by rw [beq_eq_false_iff_ne]; exact hi
              by_cases hk1 : x.kind = 1
              · have n2 : (x.kind == 1) = true := by rw [hk1]; rfl
                clear hi hk1
                go_wp2_with fail
                go_roundw
                case rel => exact ⟨k + 1, by omega, by go_num, _, HQ.out.keptN ((Kept.refl [] wr).alloc _), HPM⟩
                case measure => simp [intOf]; omega
              · have n2 : (x.kind == 1) = false := by rw [beq_eq_false_iff_ne]; exact hk1
                have n3 : decide (x.kind = 1) = false := decide_eq_false hk1
                have HST2 := hid (show statS (playU 2 5 (playU 2 5 U x) x) mineS = (sx, G.length, sz) by rw [HPM.out.other hi hk1, HST.out])
                have HPM2 := hid (HPM.out.play (most := 2) (delay := 5) x)
                have HGD := hid (HQ.out.guard ((Kept.refl [] wr).alloc (.cells #[.int .i64 (sx : Int), .int .i64 (G.length : Int), .int .i64 (sz : Int)] 51)) (Nat.le_refl _) (heap_alloc_new wr _))
                have heq := eq_arr
                have HPL2 := hid (play_st HGD.out x (HLX.out.keptN HGD.out.kept) HSM.out)
                unfold encO sV at HPL2
                clear hi hk1
                go_wp2_with (first
                  | (go_at_call 29; refine HPL2.out.mono ?_; rintro e w7 ⟨m7, a7, cap7, _, rfl, _, _, h7⟩; have H7 := hid (h7.sub (p' := [(wr.heap.size, .cells #[.int .i64 (sx : Int), .int .i64 (G.length : Int), .int .i64 (sz : Int)] 51 (0, 0))]) (by simp)); clear h7)
                  | (go_at_call 22; refine (status_st H7.out ⟨#[109, 105, 110, 101]⟩ HMZ.out).mono ?_; rw [HMS.out, HST2.out]; rintro e w8 ⟨rfl, h8⟩; have H8 := hid h8; have hb8 := h8.at (List.mem_singleton.2 rfl); have z0 := cell_at hb8 0; have z1 := cell_at hb8 1; have z2 := cell_at hb8 2; simp at z0 z1 z2; clear h8 hb8))
                go_roundw
                case rel => exact ⟨k + 1, by omega, by go_num, _, H8.out.sub (by simp), HPM2⟩
                case measure => simp [intOf]; omega
      · go_wp2_with (go_at_call 10; refine (alive_any _).mono ?_; rintro e w6 ⟨rfl, hk6⟩)
        go_ret
        exact ⟨rfl, (HS.out.kept.step hk6 (by simp)).toBelow (by simp)⟩
  · have HB := hid (mine_none hb0 50)
    obtain ⟨v, HV⟩ : ∃ v, Hid (beginE [] mineS cl = v) := ⟨_, hid rfl⟩
    rw [HV.out] at hb0
    have i1 : decide (v = 0) = false := decide_eq_false hb0
    have i2 : (v == 0) = false := by rw [beq_eq_false_iff_ne]; exact hb0
    clear hb0
    go_enter Try.func5, Try.ntmps5
    go_wp2_with (first
      | (go_at_call 30; refine HSH.out.mono ?_; rintro e w1 ⟨rfl, rfl⟩)
      | (go_at_call 9; refine HF.out.mono ?_; rintro e w1 ⟨rfl, hk1⟩)
      | (go_at_call 11; refine (new_st hk1 (most := 2) (delay := 5) (by omega) (by omega) (by omega) (by omega)).mono ?_; rintro e w2 ⟨lb, mb, rfl, h2⟩; have H2 := hid h2; clear h2 hk1)
      | (go_at_call 13; refine (begin_st H2.out ⟨#[109, 105, 110, 101]⟩ HMZ.out (HC.out.1.keptN H2.out.kept) (fun c hc => by have := HSO.out.2 c hc; omega) HC.out.2 50).mono ?_; rw [HMS.out, HV.out]; rintro e w3 ⟨rfl, h3⟩; have H3 := hid h3; clear h3)
      | (go_at_call 22; refine (status_st H3.out ⟨#[109, 105, 110, 101]⟩ HMZ.out).mono ?_; rw [HMS.out, HB.out]; rintro e w4 ⟨rfl, h4⟩; have H5 := hid h4; clear h4)
      | (go_at_call 10; refine (alive_any _).mono ?_; rintro e w6 ⟨rfl, hk6⟩))
    go_ret
    exact ⟨rfl, (H5.out.kept.step hk6 (by simp)).toBelow (by simp)⟩
end Go.Proofs.Ytdikijbkfhimoaa

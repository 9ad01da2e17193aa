/- Due of the reference: the walk. -/
import Derived.Test.YtdikijbkfhimoaaRl5
namespace Go.Proofs.Ytdikijbkfhimoaa
open Go.RowKit Go.Maps

theorem box_pr {w : World} {x y : Str} {n : Nat} (hn : w.heap.size = n) : PrsAt (w.alloc (.cells #[.string ⟨x.toArray⟩, .string ⟨y.toArray⟩] 48 (0, 0))) (some ⟨n, 0, none⟩) [(x, y)] := by
  subst hn
  exact list_box encPrOk (heap_alloc_new _ _) (by simp [rowV, encPr, sV]) (by simp [maxLen])
set_option maxHeartbeats 8000000 in
set_option maxRecDepth 100000 in
theorem rdue_any {w : World} {qb most delay : Nat} {a : Option Addr} {cap : Nat} {Y : List RQ} (h : RAt w qb most delay a cap Y) (hF : ∀ y ∈ Y, ∀ r ∈ y.l, r.failed ≤ 8 ∧ (0 ≤ r.begun ∧ r.begun ≤ 1099511627776)) (t : Int) :
    Calls Try.prog 17 #[.pointer (some ⟨qb, 0, none⟩), .int .i64 t] w fun e w' => ∃ pa pc, e = .returned (.slice pa (Y.flatMap (rpairs delay (lim t))).length pc) ∧ DuR w w' qb most delay a cap Y (Y.map (rdueQ delay (lim t))) (Y.flatMap (rpairs delay (lim t))) pa pc := by
  have HH := hid h
  have HF := hid hF
  have hfew := h.len
  have hd1 := h.rd.1
  have hd2 := h.rd.2
  have HL := hid h.lens
  have lb := lim_bd t
  obtain ⟨lb1, lb2⟩ := lb
  clear h hF
  go_enter Try.func17, Try.ntmps17
  go_wp2_with fail
  go_loopw [5, 6] (fun pv iv wr => ∃ (i : Nat) (D : List Pr) (pa : Option Addr) (pc : Nat), i ≤ Y.length ∧ iv = .int .i64 (i : Int) ∧ pv = .slice pa D.length pc ∧ Hid (D = (Y.take i).flatMap (rpairs delay (lim t))) ∧ Hid (DuR w wr qb most delay a cap Y (mapTo (rdueQ delay (lim t)) Y i) D pa pc)) (fun _ iv _ => Y.length - (intOf iv).toNat)
  case atStart => exact ⟨0, [], none, 0, Nat.zero_le _, rfl, rfl, hid (by simp), hid (by rw [mapTo_zero]; exact DuR.start HH.out (Kept.refl _ _))⟩
  case round =>
    obtain ⟨i, D, pa, pc, hi, rfl, rfl, HD, HDU⟩ := hrel
    have hc2 := HDU.out.rat.c2
    rw [mapTo_len] at hc2
    by_cases hlt : i < Y.length
    · obtain ⟨b0, rfl, hb0, d0, d1⟩ := HDU.out.sess hlt
      have hb1 : (0 : Int) ≤ i := by omega
      have hb2 : (i : Int) < Y.length := by omega
      have HLT := hid hlt
      have hyl := HL.out _ (List.getElem_mem hlt)
      have HFy := hid (HF.out _ (List.getElem_mem hlt))
      have HDN := hid (rall_snoc delay (lim t) Y hlt)
      have HDL := hid (Nat.le_trans (rall_len delay (lim t) (Y.take i) (fun y hy => HL.out y (List.mem_of_mem_take hy))) (show (Y.take i).length * 256 ≤ 65536 by rw [List.length_take]; omega))
      have HZ0 := hid (inZ_zero (y := Y[i]) (delay := delay) (now := lim t) hlt rfl)
      have HZA := hid (fun k (hk : Y[i].l.length ≤ k) => inZ_all (y := Y[i]) (delay := delay) (now := lim t) hlt rfl hk)
      unfold sV at d0
      generalize Y[i] = y at *
      have HI := hid (show DuI w (wr.alloc (.cells #[sV y.id, .slice y.na y.l.length y.nc] 77 (0, 0))) qb most delay (some ⟨b0, 0, none⟩) cap Y (inZ delay (lim t) Y i y 0) D pa pc y wr.heap.size from by
        rw [HZ0.out]; exact ⟨HDU.out.keptN ((Kept.refl [] wr).alloc _), heap_alloc_new wr _, HDU.out.kept.size⟩)
      unfold sV at HI
      obtain ⟨g, HG⟩ : ∃ g, Hid (g = wr.heap.size) := ⟨_, hid rfl⟩
      go_wp2_with fail
      rw [← HG.out] at HI ⊢
      go_loopw [5, 8] (fun pv kv wi => ∃ (k : Nat) (E : List Pr) (pa : Option Addr) (pc : Nat), k ≤ y.l.length ∧ kv = .int .i64 (k : Int) ∧ pv = .slice pa E.length pc ∧ Hid (E = (Y.take i).flatMap (rpairs delay (lim t)) ++ rpairsL delay (lim t) y.id (y.l.take k)) ∧ Hid (DuI w wi qb most delay (some ⟨b0, 0, none⟩) cap Y (inZ delay (lim t) Y i y k) E pa pc y g)) (fun _ kv _ => y.l.length - (intOf kv).toNat)
      case atStart => exact ⟨0, D, pa, pc, Nat.zero_le _, rfl, rfl, hid (by rw [HD.out]; simp [rpairsL]), HI⟩
      case round =>
        obtain ⟨k, E, pa2, pc2, hk, rfl, rfl, HE, HI2⟩ := hrel
        have q0 := cell_at HI2.out.blk 0
        have q1 := cell_at HI2.out.blk 1
        simp only [List.getElem?_toArray, List.getElem?_cons_zero, List.getElem?_cons_succ] at q0 q1
        by_cases hkt : k < y.l.length
        · obtain ⟨b, eb, hbb, n0, n1, n2, n3, hfz, hyes⟩ := HI2.out.note HLT.out hkt
          rw [eb] at q1
          have EB := hid eb
          clear eb
          obtain ⟨f8, rb1, rb2⟩ := HFy.out _ (List.getElem_mem hkt)
          have HSN := hid (rpairsL_snoc delay (lim t) y.id y.l hkt)
          have HNO := hid (fun (hr : rripe delay (lim t) y.l[k] = false) => inZ_same (delay := delay) (now := lim t) (Y := Y) (i := i) hkt (rdueN_no hr))
          have HYES := hid (fun hr (w3 : World) h' => @hyes hr w3 h')
          have HFZ := hid (hfz (k * 4 + 3))
          have HKT := hid hkt
          have HEL := hid (show E.length ≤ 65536 + 256 by rw [HE.out, List.length_append]; have h1 := HDL.out; have h2 := rpairs_len delay (lim t) y.id (y.l.take k); rw [List.length_take] at h2; omega)
          clear hyes hfz
          generalize y.l[k] = r at *
          obtain ⟨rc, rf, rb, rs⟩ := r
          have hk1 : (0 : Int) ≤ k := by omega
          have hk2 : (k : Int) < y.l.length := by omega
          unfold sV at n0
          have KA := hid ((Kept.refl [] wr).alloc (.cells #[.string ⟨rc.toArray⟩, .int .i64 (rf : Int), .int .i64 rb, .int .i64 rs] 81 (0, 0)))
          have HA := hid (heap_alloc_new wr (.cells #[.string ⟨rc.toArray⟩, .int .i64 (rf : Int), .int .i64 rb, .int .i64 rs] 81 (0, 0)))
          go_wp2_with fail
          obtain ⟨g2, HG2⟩ : ∃ g2, Hid (g2 = wr.heap.size) := ⟨_, hid rfl⟩
          obtain ⟨w2, HW2⟩ : ∃ v, Hid (v = wr.alloc (.cells #[.string ⟨rc.toArray⟩, .int .i64 (rf : Int), .int .i64 rb, .int .i64 rs] 81 (0, 0))) := ⟨_, hid rfl⟩
          rw [← HG2.out, ← HW2.out]
          rw [← HW2.out] at KA HA
          rw [← HG2.out] at HA
          have HNE := hid (show b ≠ g2 by rw [HG2.out]; omega)
          have hb2' : b < w2.heap.size := Nat.lt_of_lt_of_le hbb KA.out.size
          have HI3 := hid (HI2.out.keptN KA.out)
          have m3 := (KA.out.cell (p := ⟨b, k * 4 + 3, none⟩) hbb (by simp)).trans n3
          have z3 := (KA.out.frozen (p := ⟨b, k * 4 + 3, none⟩) hbb (by simp)).trans HFZ.out
          clear n0 n1 n2 n3 q0 q1
          have c1 := HI3.out.du.rat.c1
          obtain ⟨e0, e1, e2, e3⟩ := four HA.out
          have q0 := cell_at HI3.out.blk 0
          have q1 := cell_at HI3.out.blk 1
          simp only [List.getElem?_toArray, List.getElem?_cons_zero, List.getElem?_cons_succ] at q0 q1
          rw [EB.out] at q1
          unfold sV at q0
          by_cases hs : rs = 0
          · subst hs
            have HPW := hid (fun (W : World) => power_any rf f8 W)
            have HV := hid (show rripe delay (lim t) ⟨rc, rf, rb, 0⟩ = decide (rb + (afterN delay rf : Nat) ≤ lim t) from ripe_zero)
            have bd := after_bd hd2 f8
            have HPV := hid (show ((delay : Int) * (((2 ^ rf : Nat) : Int) - 1)) = ((afterN delay rf : Nat) : Int) by
              unfold afterN
              have : 1 ≤ 2 ^ rf := Nat.one_le_two_pow
              rw [Int.natCast_mul, Int.natCast_sub this]; rfl)
            have p1 : 1 ≤ 2 ^ rf := Nat.one_le_two_pow
            have p2 : 2 ^ rf ≤ 256 := by
              have : 2 ^ rf ≤ 2 ^ 8 := Nat.pow_le_pow_right (by omega) f8
              omega
            generalize 2 ^ rf = p at *
            generalize afterN delay rf = v at *
            have p3 : (1 : Int) ≤ p := by omega
            have p4 : (p : Int) ≤ 256 := by omega
            have s1 : IntKind.i64.wrap ((p : Int) - 1) = (p : Int) - 1 := IntWalk.i64_in _ (by omega)
            have s2 : IntKind.i64.wrap ((delay : Int) * ((p : Int) - 1)) = (v : Int) := by rw [HPV.out]; exact IntWalk.i64_in _ (by omega)
            have s3 : IntKind.i64.wrap (rb + (v : Int)) = rb + (v : Int) := IntWalk.i64_in _ (by omega)
            by_cases hr : rb + (v : Int) ≤ lim t
            · have hrd : decide (rb + (v : Int) ≤ lim t) = true := decide_eq_true hr
              have HR := hid (HV.out.trans hrd)
              obtain ⟨E2, HE2⟩ : ∃ E2, Hid (E2 = E ++ [(y.id, rc)]) := ⟨_, hid rfl⟩
              have HE3 := hid (show E2 = (Y.take i).flatMap (rpairs delay (lim t)) ++ rpairsL delay (lim t) y.id (y.l.take (k + 1)) by rw [HE2.out, HSN.out, HR.out, HE.out, if_pos rfl, List.append_assoc])
              have HI4 := hid (fun (n : Nat) => HYES.out HR.out _ (HI3.out.keptN ((Kept.refl [] w2).drewN n)))
              have HQ0 := hid (fun (n : Nat) => show ((w2.drewN n).setCell ⟨b, k * 4 + 3, none⟩ (.int .i64 1)).cell? ⟨g, 0, none⟩ = some (.string ⟨y.id.toArray⟩) from by rw [cell_at (HI4.out n).blk]; rfl)
              have HQ2 := hid (fun (n : Nat) => show ((w2.drewN n).setCell ⟨b, k * 4 + 3, none⟩ (.int .i64 1)).cell? ⟨g2, 0, none⟩ = some (.string ⟨rc.toArray⟩) from
                (((Kept.refl [b] (w2.drewN n)).setCell (.inl (by simp)) _).cell (p := ⟨g2, 0, none⟩) (lt_of_heap HA.out) (by simp; exact fun e => HNE.out e.symm)).trans e0)
              clear hr
              go_wp2_with fail
              go_quiet ((first
                | (go_at_call 39; exact Calls.quiet_of_same ((limit_any _ _).mono fun _ _ h => ⟨h.1, h.2.symm⟩))
                | (go_at_call 45; exact Calls.quiet_of_same ((HPW.out _).mono fun _ _ h => ⟨h.1, h.2.symm⟩))))
              go_wp2_with (at_builtin; refine wp_appL encPrOk Try.underlying37 HE2.out (w0 := bare w) ((HI4.out _).du.prs.later ((Kept.refl [] _).alloc _)) (box_pr (x := y.id) (y := rc) (show ((w2.drewN _).setCell _ _).heap.size = w2.heap.size by simp)) (show E.length + 1 ≤ 1000000 by have := HEL.out; omega) rfl _ _ rfl rfl rfl rfl rfl ?_; intro a3 c3 w4 o4 k4 f4)
              go_roundw
              case rel => exact ⟨k + 1, E2, a3, c3, by omega, by go_num, rfl, HE3, hid (((HI4.out _).keptN ((Kept.refl [] _).alloc _)).app o4 k4 f4)⟩
              case measure => simp [intOf]; omega
            · have hrd : decide (rb + (v : Int) ≤ lim t) = false := decide_eq_false hr
              have HR := hid (HV.out.trans hrd)
              clear hr
              go_wp2_with fail
              go_quiet ((first
                | (go_at_call 39; exact Calls.quiet_of_same ((limit_any _ _).mono fun _ _ h => ⟨h.1, h.2.symm⟩))
                | (go_at_call 45; exact Calls.quiet_of_same ((HPW.out _).mono fun _ _ h => ⟨h.1, h.2.symm⟩))))
              go_wp2_with fail
              go_roundw
              case rel => exact ⟨k + 1, E, pa2, pc2, by omega, by go_num, rfl, hid (by rw [HSN.out, HR.out, if_neg (by simp), List.append_nil]; exact HE.out), hid (by rw [HNO.out HR.out]; exact HI3.out.keptN ((Kept.refl [] w2).drewN _))⟩
              case measure => simp [intOf]; omega
          · have i1 : decide (rs = 0) = false := decide_eq_false hs
            have i2 : (rs == 0) = false := beq_eq_false_iff_ne.2 hs
            have HR := hid (show rripe delay (lim t) ⟨rc, rf, rb, rs⟩ = false from ripe_no hs)
            clear hs
            go_wp2_with fail
            go_quiet (fail)
            go_wp2_with fail
            go_roundw
            case rel => exact ⟨k + 1, E, pa2, pc2, by omega, by go_num, rfl, hid (by rw [HSN.out, HR.out, if_neg (by simp), List.append_nil]; exact HE.out), hid (by rw [HNO.out HR.out]; exact HI3.out.keptN ((Kept.refl [] w2).drewN _))⟩
            case measure => simp [intOf]; omega
        · obtain rfl : k = y.l.length := by omega
          have HZE := hid (HZA.out _ (Nat.le_refl _))
          have HD2 := hid (show E = (Y.take (i + 1)).flatMap (rpairs delay (lim t)) by rw [HDN.out, HE.out, List.take_length])
          go_wp2_with fail
          go_roundw
          case rel => exact ⟨i + 1, E, pa2, pc2, by omega, by go_num, rfl, HD2, hid (by rw [← HZE.out]; exact HI2.out.du)⟩
          case measure => simp [intOf]; omega
    · obtain rfl : i = Y.length := by omega
      have HD2 := hid (show D = Y.flatMap (rpairs delay (lim t)) by rw [HD.out, List.take_length])
      have HZE := hid (mapTo_all (f := rdueQ delay (lim t)) (Nat.le_refl Y.length))
      go_wp2_with fail
      go_ret
      rw [HZE.out, HD2.out] at HDU
      exact ⟨pa, pc, by rw [HD2.out]; rfl, HDU.out⟩
end Go.Proofs.Ytdikijbkfhimoaa

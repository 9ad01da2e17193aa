/- RiskApart: the walk. -/
import Derived.Test.YtbcbffmbpoffpaaApartQ
namespace Go.Proofs.Ytbcbffmbpoffpaa
open Go.RowKit Go.Maps Go.ChangeShapes Go.WideShapes Go.ChangeAt

set_option maxHeartbeats 16000000 in
set_option maxRecDepth 100000 in
theorem apart_walk {w : World} {a : Option Addr} {cap : Nat} {l : List OpD} (h : OpsAt w a l ∧ l.length ≤ cap ∧ cap ≤ maxLen) (x : OpD) (_hx : True) :
    Calls Try.prog 8 #[.slice a l.length cap, .agg #[.int .i64 x.kind, .string ⟨x.u.toArray⟩, .string ⟨x.d.toArray⟩, .string ⟨x.p.toArray⟩, .int .i64 x.now]] w fun e w' => e = .returned (.bool true) ∧ Below w.heap.size w w' := by
  obtain ⟨h, hcap1, hcap2⟩ := h
  unfold maxLen at hcap2
  have hbx := heap_alloc_new w (.cells #[.int .i64 x.kind, .string ⟨x.u.toArray⟩, .string ⟨x.d.toArray⟩, .string ⟨x.p.toArray⟩, .int .i64 x.now] 35 (0, 0))
  have hk0 := (Kept.refl [] w).alloc (.cells #[.int .i64 x.kind, .string ⟨x.u.toArray⟩, .string ⟨x.d.toArray⟩, .string ⟨x.p.toArray⟩, .int .i64 x.now] 35 (0, 0))
  obtain ⟨w0, HW0⟩ : ∃ w0, Hid (w0 = w.alloc (.cells #[.int .i64 x.kind, .string ⟨x.u.toArray⟩, .string ⟨x.d.toArray⟩, .string ⟨x.p.toArray⟩, .int .i64 x.now] 35 (0, 0))) := ⟨_, hid rfl⟩
  rw [← HW0.out] at hbx hk0
  have hc1 := cell_at hbx 1
  have hc2 := cell_at hbx 2
  have hc3 := cell_at hbx 3
  simp at hc1 hc2 hc3
  have z1 := size_str x.u
  have z2 := size_str x.d
  have z3 := size_str x.p
  have HBX := hid hbx
  have HK0 := hid hk0
  have hops := hid (h.keptN hk0)
  have hbr := hid (brief_any (cap := cap) hops.out)
  clear h hbx hk0
  by_cases t1 : briefB l = true
  · rw [t1] at hbr
    by_cases t2 : 100 < x.u.length
    · clear t1
      go_enter Try.func8, Try.ntmps8
      go_wp2_with fail
      rw [← HW0.out]
      refine hbr.out.mono ?_
      rintro e w' ⟨rfl, rfl⟩
      go_wp2_with fail
      refine (alive_any _).mono ?_
      rintro e w5 ⟨rfl, k5⟩
      go_wp2_with fail
      go_ret
      exact ⟨rfl, (HK0.out.step k5 (by simp)).bel⟩
    · by_cases t3 : 100 < x.d.length
      · clear t1
        go_enter Try.func8, Try.ntmps8
        go_wp2_with fail
        rw [← HW0.out]
        refine hbr.out.mono ?_
        rintro e w' ⟨rfl, rfl⟩
        go_wp2_with fail
        refine (alive_any _).mono ?_
        rintro e w5 ⟨rfl, k5⟩
        go_wp2_with fail
        go_ret
        exact ⟨rfl, (HK0.out.step k5 (by simp)).bel⟩
      · by_cases t4 : 100 < x.p.length
        · clear t1
          go_enter Try.func8, Try.ntmps8
          go_wp2_with fail
          rw [← HW0.out]
          refine hbr.out.mono ?_
          rintro e w' ⟨rfl, rfl⟩
          go_wp2_with fail
          refine (alive_any _).mono ?_
          rintro e w5 ⟨rfl, k5⟩
          go_wp2_with fail
          go_ret
          exact ⟨rfl, (HK0.out.step k5 (by simp)).bel⟩
        · have HLEN := hid (brief_yes t1).1
          have HSMA := hid (show ∀ y ∈ l, Small y from fun y hy => small_of ((brief_yes t1).2 y hy))
          have HS := hid (small_of (x := x) (by simp [bigB]; omega))
          have HOFF := hid (show 0 < l.length → ∀ b, (∃ off, a = some ⟨b, off, none⟩) → b < w0.heap.size from fun h0 b hb => by
            obtain ⟨off, e⟩ := hb
            obtain ⟨b', off', e', hb', _⟩ := OpsAt.get hops.out h0
            rw [e] at e'
            injection e' with e'; injection e' with e1 _ _
            omega)
          clear t1
          go_enter Try.func8, Try.ntmps8
          go_wp2_with fail
          rw [← HW0.out]
          refine hbr.out.mono ?_
          rintro e w' ⟨rfl, rfl⟩
          go_wp2_with fail
          refine (new_prof _).mono ?_
          rintro e w1 ⟨rfl, h1, k1, z1⟩
          generalize hpb : w0.heap.size + 1 = pb at *
          generalize hmb : w0.heap.size = mb at *
          have H1 := hid h1
          have K1 := hid k1
          have HZ1 := hid z1
          have HPB := hid (And.intro hpb hmb)
          clear h1 k1 z1 hpb hmb
          go_wp2_with fail
          refine (new_prof _).mono ?_
          rintro e w2 ⟨rfl, h2, k2, z2⟩
          generalize hqb : w1.heap.size + 1 = qb at *
          generalize hnb : w1.heap.size = nb at *
          have HNE := hid (show pb ≠ nb ∧ mb ≠ nb ∧ qb ≠ mb ∧ nb ≠ mb by have := HPB.out; have := HZ1.out; omega)
          have HSZ := hid (show w0.heap.size ≤ mb ∧ mb ≤ nb by have := HPB.out; have := HZ1.out; omega)
          have HP2 := hid (H1.out.keptN k2)
          have HQ2 := hid h2
          have HK2 := hid (K1.out.step k2 (by simp))
          clear h2 k2 z2 hqb hnb
          go_wp2_with fail
          go_loopw [7, 8] (fun v i wr => ∃ (k : Nat), k ≤ l.length ∧ i = .int .i64 k ∧ v = .int .i64 (lastZ x.u (l.take k)) ∧ ProfsAt wr pb mb (foldO [] (l.take k)) ∧ ProfsAt wr qb nb (foldO [] (mineL x.u (l.take k))) ∧ Kept [] w0 wr) (fun _ i _ => l.length - (intOf i).toNat)
          case atStart => exact ⟨0, Nat.zero_le _, rfl, rfl, HP2.out, HQ2.out, HK2.out⟩
          case round =>
            obtain ⟨k, hk, rfl, rfl, hp, hq, hkw⟩ := hrel
            have HP := hid hp
            have HQ := hid hq
            have HKW := hid hkw
            clear hp hq hkw
            by_cases hlt : k < l.length
            · obtain ⟨b, off, rfl, hb, hd0, hd1, hd2, hd3, hd4⟩ := OpsAt.get (hops.out.keptN HKW.out) hlt
              have HONE := hid (one_at (hops.out.keptN HKW.out) hlt)
              have hb1 : (0 : Int) ≤ k := by omega
              have hb2 : (k : Int) < l.length := by omega
              have hb3 : (k : Int) + 1 ≤ cap := by omega
              have HSM1 := hid (HSMA.out _ (List.getElem_mem hlt))
              have HF := hid (foldO_snoc [] l k hlt)
              have HL := hid (last_snoc x.u l k hlt)
              have HM := hid (mine_snoc x.u l k hlt)
              have HZB := hid (last_bd x.u (l.take k) 0 (by omega))
              obtain ⟨V, HV⟩ : ∃ V, Hid (foldO [] (l.take k) = V) := ⟨_, hid rfl⟩
              obtain ⟨M, HMM⟩ : ∃ M, Hid (mineL x.u (l.take k) = M) := ⟨_, hid rfl⟩
              obtain ⟨Z, HZ⟩ : ∃ Z, Hid (lastZ x.u (l.take k) = Z) := ⟨_, hid rfl⟩
              rw [HV.out] at HP HF
              rw [HMM.out] at HQ HM
              rw [HZ.out] at HL ⊢
              have hzb : 0 ≤ Z ∧ Z ≤ 1099511627776 := by rw [← HZ.out]; exact HZB.out
              generalize hy : l[k] = y at *
              clear hy hd0 hd2 hd3
              have HBB := hid hb
              have HD1 := hid hd1
              have HD4 := hid hd4
              have hop : ∀ wq c (p : ProfsAt wq pb mb V) (q : Kept [] w0 wq) (o : OpsAt wq (some ⟨b, off + k * 5, none⟩) [y]), Calls Try.prog 27 #[.pointer (some ⟨pb, 0, none⟩), .slice (some ⟨b, off + k * 5, none⟩) 1 c] wq fun e w' => ObsDone wq w' e pb mb (stepO V y) := fun wq c p q o => observeL_any p o (fun _ i hi => by simp only [fp, List.mem_singleton] at hi; have := HOFF.out (by omega) b ⟨off, rfl⟩; have := HSZ.out; omega) (fun z hz => by simp at hz; rw [hz]; exact HSM1.out)
              have hoq : ∀ wq c (p : ProfsAt wq qb nb (foldO [] M)) (q : Kept [] w0 wq) (o : OpsAt wq (some ⟨b, off + k * 5, none⟩) [y]), Calls Try.prog 27 #[.pointer (some ⟨qb, 0, none⟩), .slice (some ⟨b, off + k * 5, none⟩) 1 c] wq fun e w' => ObsDone wq w' e qb nb (stepO (foldO [] M) y) := fun wq c p q o => observeL_any p o (fun _ i hi => by simp only [fp, List.mem_singleton] at hi; have := HOFF.out (by omega) b ⟨off, rfl⟩; have := HSZ.out; omega) (fun z hz => by simp at hz; rw [hz]; exact HSM1.out)
              have HOP := hid hop
              have HOQ := hid hoq
              clear hop hoq hd1 hd4
              have hlen5 : (k : Int) + 1 - k = 1 := by omega
              go_wp2_with fail
              refine (HOP.out _ _ HP.out HKW.out HONE.out).mono ?_
              rintro e w3 ⟨⟨v3, rfl⟩, p3, k3⟩
              have HP3 := hid p3
              have HQ3 := hid (HQ.out.kept k3 (by have := HNE.out; simp; omega) (by have := HNE.out; simp; omega) HP.out.nostr)
              have HKW3 := hid (HKW.out.trans k3 (fun i hi => .inr (by have := HSZ.out; simp at hi; omega)))
              have HBL := hid (show b < mb from by have := HOFF.out (by omega) b ⟨off, rfl⟩; exact this)
              have hbm : b ∉ [mb] := by have := HBL.out; simp; omega
              have HO3 := hid (show OpsAt w3 (some ⟨b, off + k * 5, none⟩) [y] from SeqAt.kept HONE.out CEnc.lasts k3 (by have := HBL.out; simp; omega))
              have d1 := (k3.cell (p := ⟨b, off + k * 5 + 1, none⟩) HBB.out hbm).trans HD1.out
              have d4 := (k3.cell (p := ⟨b, off + k * 5 + 4, none⟩) HBB.out hbm).trans HD4.out
              have g1 := (HKW3.out.cell (p := ⟨w.heap.size, 1, none⟩) (lt_of_heap HBX.out) (by simp)).trans hc1
              have D4 := hid d4
              have hbw3 := Nat.lt_of_lt_of_le HBB.out k3.size
              have HB3 := hid hbw3
              clear p3 k3 d4 hbm hbw3
              cases hu : userB x.u y
              · have e1 : (y.u == x.u) = _ := hu
                have e2 := (Bool.beq_comm (a := x.u) (b := y.u)).trans e1
                have HU := hid hu
                clear hu
                go_wp2_with fail
                go_quiet (fail)
                go_wp2_with fail
                go_roundw
                case rel => exact ⟨k + 1, by omega, by go_num, by rw [HL.out]; unfold stepZ; rw [if_neg (by rw [HU.out]; decide)], by rw [HF.out]; exact HP3.out.keptN ((Kept.refl [] w3).drewN _), by rw [HM.out, if_neg (by rw [HU.out]; decide)]; exact HQ3.out.keptN ((Kept.refl [] w3).drewN _), HKW3.out.drewN _⟩
                case measure => simp [intOf]; omega
              · have e1 : (y.u == x.u) = _ := hu
                have e2 := (Bool.beq_comm (a := x.u) (b := y.u)).trans e1
                have HU := hid hu
                clear hu
                have hlb := lim_bd y.now
                go_wp2_with fail
                go_quiet (fail)
                go_wp2_with fail
                refine (HOQ.out _ _ (HQ3.out.keptN ((Kept.refl [] w3).drewN _)) (HKW3.out.drewN _) (HO3.out.keptN ((Kept.refl [] w3).drewN _))).mono ?_
                rintro e w4 ⟨⟨v4, rfl⟩, q4, k4⟩
                have kk := ((Kept.refl [nb] w3).drewN _).step k4 (by simp)
                have HQ4 := hid q4
                have HP4 := hid (HP3.out.kept kk (by have := HNE.out; simp; omega) (by have := HNE.out; simp; omega) HQ3.out.nostr)
                have HKW4 := hid (HKW3.out.trans kk (fun i hi => .inr (by have := HSZ.out; simp at hi; omega)))
                have d4 := (kk.cell (p := ⟨b, off + k * 5 + 4, none⟩) HB3.out (by have := HBL.out; have := HSZ.out; simp; omega)).trans D4.out
                clear kk q4 k4 d1 g1
                go_wp2_with fail
                refine (add0_any _ _).mono ?_
                rintro e w' ⟨rfl, rfl⟩
                go_wp2_with fail
                go_roundw
                case rel => exact ⟨k + 1, by omega, by go_num, by rw [HL.out]; unfold stepZ; rw [if_pos HU.out]; congr 1; split <;> omega, by rw [HF.out]; exact HP4.out, by rw [HM.out, if_pos HU.out, foldO_app]; exact HQ4.out, HKW4.out⟩
                case measure => simp [intOf]; omega
            · have HT := hid (List.take_of_length_le (l := l) (i := k) (by omega))
              rw [HT.out] at HP HQ ⊢
              have HEQ := hid (look_mine x.u HLEN.out)
              have HST := hid (still_ok x.u HLEN.out x.p)
              have hzb := last_bd x.u l 0 (by omega)
              obtain ⟨U, HU⟩ : ∃ U, Hid (foldO [] l = U) := ⟨_, hid rfl⟩
              obtain ⟨V, HV⟩ : ∃ V, Hid (foldO [] (mineL x.u l) = V) := ⟨_, hid rfl⟩
              rw [HU.out] at HP HEQ HST
              rw [HV.out] at HQ HEQ
              change 0 ≤ lastZ x.u l ∧ lastZ x.u l ≤ _ at hzb
              obtain ⟨Z, HZ⟩ : ∃ Z, Hid (lastZ x.u l = Z) := ⟨_, hid rfl⟩
              rw [HZ.out] at HST hzb ⊢
              obtain ⟨S, HS1⟩ : ∃ S, Hid (sigsL U x.u x.d x.p x.now = S) := ⟨_, hid rfl⟩
              obtain ⟨T, HT1⟩ : ∃ T, Hid (sigsL U x.u x.d x.p (add Z 3600) = T) := ⟨_, hid rfl⟩
              have hS4 : S.length = 4 := by rw [← HS1.out]; rfl
              have hT4 : T.length = 4 := by rw [← HT1.out]; rfl
              have HT2 := hid (show ∀ h : 2 < T.length, Z ≤ 549755813888 → T[2].2 = 0 from fun h hz => by
                subst T
                rw [sigs_two, HST.out hz]; rfl)
              have hsp : ∀ wq, ProfsAt wq pb mb U → Calls Try.prog 21 #[.pointer (some ⟨pb, 0, none⟩), .string ⟨x.u.toArray⟩, .string ⟨x.d.toArray⟩, .string ⟨x.p.toArray⟩, .int .i64 x.now] wq fun e w' => SigGives wq w' e (sigsL U x.u x.d x.p x.now) := fun wq p => signals_any p ⟨x.u.toArray⟩ ⟨x.d.toArray⟩ ⟨x.p.toArray⟩ HS.out.u x.now
              have hst : ∀ wq, ProfsAt wq pb mb U → Calls Try.prog 21 #[.pointer (some ⟨pb, 0, none⟩), .string ⟨x.u.toArray⟩, .string ⟨x.d.toArray⟩, .string ⟨x.p.toArray⟩, .int .i64 (add Z 3600)] wq fun e w' => SigGives wq w' e (sigsL U x.u x.d x.p (add Z 3600)) := fun wq p => signals_any p ⟨x.u.toArray⟩ ⟨x.d.toArray⟩ ⟨x.p.toArray⟩ HS.out.u (add Z 3600)
              have hsq : ∀ wq, ProfsAt wq qb nb V → Calls Try.prog 21 #[.pointer (some ⟨qb, 0, none⟩), .string ⟨x.u.toArray⟩, .string ⟨x.d.toArray⟩, .string ⟨x.p.toArray⟩, .int .i64 x.now] wq fun e w' => SigGives wq w' e (sigsL V x.u x.d x.p x.now) := fun wq p => signals_any p ⟨x.u.toArray⟩ ⟨x.d.toArray⟩ ⟨x.p.toArray⟩ HS.out.u x.now
              rw [HS1.out] at hsp
              rw [HT1.out] at hst
              rw [sigs_same HEQ.out, HS1.out] at hsq
              obtain ⟨Kn, HKN⟩ : ∃ b, Hid (knownB U x.u x.d = b) := ⟨_, hid rfl⟩
              have hkp : ∀ wq, ProfsAt wq pb mb U → Calls Try.prog 23 #[.pointer (some ⟨pb, 0, none⟩), .string ⟨x.u.toArray⟩, .string ⟨x.d.toArray⟩] wq fun e w' => e = .returned (.bool (knownB U x.u x.d)) ∧ wq = w' := fun wq p => known_any p ⟨x.u.toArray⟩ ⟨x.d.toArray⟩ HS.out.u
              have hkq : ∀ wq, ProfsAt wq qb nb V → Calls Try.prog 23 #[.pointer (some ⟨qb, 0, none⟩), .string ⟨x.u.toArray⟩, .string ⟨x.d.toArray⟩] wq fun e w' => e = .returned (.bool (knownB V x.u x.d)) ∧ wq = w' := fun wq p => known_any p ⟨x.u.toArray⟩ ⟨x.d.toArray⟩ HS.out.u
              rw [HKN.out] at hkp
              rw [known_same HEQ.out, HKN.out] at hkq
              have HSP := hid hsp
              have HST2 := hid hst
              have HSQ := hid hsq
              have HKP := hid hkp
              have HKQ := hid hkq
              clear hsp hst hsq hkp hkq
              have HCE := hid (fun wq (q : Kept [] w0 wq) => And.intro (show wq.cell? ⟨w.heap.size, 1, none⟩ = some (.string ⟨x.u.toArray⟩) by rw [cell_at (q.at HBX.out (by simp))]; rfl) (And.intro (show wq.cell? ⟨w.heap.size, 2, none⟩ = some (.string ⟨x.d.toArray⟩) by rw [cell_at (q.at HBX.out (by simp))]; rfl) (And.intro (show wq.cell? ⟨w.heap.size, 3, none⟩ = some (.string ⟨x.p.toArray⟩) by rw [cell_at (q.at HBX.out (by simp))]; rfl) (show wq.cell? ⟨w.heap.size, 4, none⟩ = some (.int .i64 x.now) by rw [cell_at (q.at HBX.out (by simp))]; rfl))))
              have HKD := hid (HKW.out.drew)
              have HPD := hid (HP.out.keptN (Kept.refl [] wr).drew)
              have HQD := hid (HQ.out.keptN (Kept.refl [] wr).drew)
              clear HT HEQ hc1 hc2 hc3
              go_wp2_with fail
              go_region_held3 (fun w' => w'.cell? ⟨w.heap.size, 1, none⟩ = some (.string ⟨x.u.toArray⟩) ∧ w'.cell? ⟨w.heap.size, 2, none⟩ = some (.string ⟨x.d.toArray⟩) ∧ w'.cell? ⟨w.heap.size, 3, none⟩ = some (.string ⟨x.p.toArray⟩) ∧ w'.cell? ⟨w.heap.size, 4, none⟩ = some (.int .i64 x.now))
                (first
                  | exact HCE.out _ ((HKD.out.step k4 (by simp)).step k5 (by simp))
                  | exact HCE.out _ (HKD.out.step k4 (by simp))
                  | exact HCE.out _ HKD.out)
                (first
                  | (go_at_call 21; have _t := s4; refine (HSQ.out _ (HQD.out.keptN k4)).mono ?_; rintro e w5 ⟨a5, c5, rfl, s5, k5⟩)
                  | (go_at_call 21; refine (HSP.out _ HPD.out).mono ?_; rintro e w4 ⟨a4, c4, rfl, s4, k4⟩))
              have K5 := hid ((HKD.out.step k4 (by simp)).step k5 (by simp))
              have HP5 := hid ((HPD.out.keptN k4).keptN k5)
              have HQ5 := hid ((HQD.out.keptN k4).keptN k5)
              have HA5 := hid (s4.keptN k5)
              have HB5 := hid s5
              clear s4 s5 k4 k5
              go_wp2_with fail
              have KD := hid (K5.out.drew)
              have HPE := hid (HP5.out.keptN (Kept.refl [] w5).drew)
              have hadd := fun wq => add_any Z 3600 wq
              have HADD := hid hadd
              clear hadd
              go_region_held3 (fun w' => w'.cell? ⟨w.heap.size, 1, none⟩ = some (.string ⟨x.u.toArray⟩) ∧ w'.cell? ⟨w.heap.size, 2, none⟩ = some (.string ⟨x.d.toArray⟩) ∧ w'.cell? ⟨w.heap.size, 3, none⟩ = some (.string ⟨x.p.toArray⟩) ∧ w'.cell? ⟨w.heap.size, 4, none⟩ = some (.int .i64 x.now))
                (first
                  | exact HCE.out _ (KD.out.step k6 (by simp))
                  | exact HCE.out _ KD.out)
                (first
                  | (go_at_call 21; refine (HST2.out _ HPE.out).mono ?_; rintro e w6 ⟨a6, c6, rfl, s6, k6⟩)
                  | (go_at_call 30; refine (HADD.out _).mono ?_; rintro e wx ⟨rfl, rfl⟩))
              have K6 := hid (KD.out.step k6 (by simp))
              have HP6 := hid (HPE.out.keptN k6)
              have HQ6 := hid ((HQ5.out.keptN (Kept.refl [] w5).drew).keptN k6)
              have HA6 := hid ((HA5.out.keptN (Kept.refl [] w5).drew).keptN k6)
              have HB6 := hid ((HB5.out.keptN (Kept.refl [] w5).drew).keptN k6)
              have HC6 := hid s6
              clear s6 k6
              go_wp2_with fail
              have HSAQ := hid (show ∀ n, Calls Try.prog 20 #[.slice a4 4 c4, .slice a5 4 c5] (w6.drewN n) fun e w'' => e = .returned (.bool true) ∧ ∃ m, w'' = w6.drewN m from fun n => by
                have h := same_any (cap := c4) (cap2 := c5) (HA6.out.keptN ((Kept.refl [] w6).drewN n)) (HB6.out.keptN ((Kept.refl [] w6).drewN n))
                rw [hS4] at h
                exact Calls.quiet_of h)
              have HKPQ := hid (show ∀ n, Calls Try.prog 23 #[.pointer (some ⟨pb, 0, none⟩), .string ⟨x.u.toArray⟩, .string ⟨x.d.toArray⟩] (w6.drewN n) fun e w'' => e = .returned (.bool Kn) ∧ ∃ m, w'' = w6.drewN m from fun n => Calls.quiet_of_same ((HKP.out _ (HP6.out.keptN ((Kept.refl [] w6).drewN n))).mono fun _ _ h => ⟨h.1, h.2.symm⟩))
              have HKQQ := hid (show ∀ n, Calls Try.prog 23 #[.pointer (some ⟨qb, 0, none⟩), .string ⟨x.u.toArray⟩, .string ⟨x.d.toArray⟩] (w6.drewN n) fun e w'' => e = .returned (.bool Kn) ∧ ∃ m, w'' = w6.drewN m from fun n => Calls.quiet_of_same ((HKQ.out _ (HQ6.out.keptN ((Kept.refl [] w6).drewN n))).mono fun _ _ h => ⟨h.1, h.2.symm⟩))
              have hkn : (Kn == Kn) = true := beq_self_eq_true _
              obtain ⟨g1, g2, g3, g4⟩ := HCE.out w6 K6.out
              have hs4' : (S.length : Int) = 4 := by omega
              have ht4' : (T.length : Int) = 4 := by omega
              have HNE0 := hid (show w.heap.size ∉ [mb] from by have := lt_of_heap HBX.out; have := HSZ.out; simp; omega)
              have HB1 := hid (show w.heap.size ≤ mb by have := lt_of_heap HBX.out; have := HSZ.out; omega)
              obtain ⟨S0, HS0⟩ : ∃ S, Hid (sigsL [] x.u x.d x.p x.now = S) := ⟨_, hid rfl⟩
              obtain ⟨W, HW⟩ : ∃ W, Hid (adel U x.u = W) := ⟨_, hid rfl⟩
              obtain ⟨W2, HW2⟩ : ∃ W2, Hid (adel W x.u = W2) := ⟨_, hid rfl⟩
              have hd1 : ∀ wq, ProfsAt wq pb mb U → Calls Try.prog 25 #[.pointer (some ⟨pb, 0, none⟩), .string ⟨x.u.toArray⟩] wq fun e w' => e = .returned (.bool (alook U x.u).isSome) ∧ ProfsAt w' pb mb (adel U x.u) ∧ Kept [mb] wq w' := fun wq p => drop_any p ⟨x.u.toArray⟩ HS.out.u
              rw [HW.out] at hd1
              have hd2 : ∀ wq, ProfsAt wq pb mb W → Calls Try.prog 25 #[.pointer (some ⟨pb, 0, none⟩), .string ⟨x.u.toArray⟩] wq fun e w' => e = .returned (.bool (alook W x.u).isSome) ∧ ProfsAt w' pb mb (adel W x.u) ∧ Kept [mb] wq w' := fun wq p => drop_any p ⟨x.u.toArray⟩ HS.out.u
              rw [HW2.out, show (alook W x.u).isSome = false by rw [← HW.out, alook_del, if_pos rfl]; rfl] at hd2
              have hs8 : ∀ wq, ProfsAt wq pb mb W → Calls Try.prog 21 #[.pointer (some ⟨pb, 0, none⟩), .string ⟨x.u.toArray⟩, .string ⟨x.d.toArray⟩, .string ⟨x.p.toArray⟩, .int .i64 x.now] wq fun e w' => SigGives wq w' e (sigsL W x.u x.d x.p x.now) := fun wq p => signals_any p ⟨x.u.toArray⟩ ⟨x.d.toArray⟩ ⟨x.p.toArray⟩ HS.out.u x.now
              rw [show sigsL W x.u x.d x.p x.now = S0 by rw [← HW.out, sigs_drop, HS0.out]] at hs8
              have hs9 : ∀ wq pq mq, ProfsAt wq pq mq [] → Calls Try.prog 21 #[.pointer (some ⟨pq, 0, none⟩), .string ⟨x.u.toArray⟩, .string ⟨x.d.toArray⟩, .string ⟨x.p.toArray⟩, .int .i64 x.now] wq fun e w' => SigGives wq w' e (sigsL [] x.u x.d x.p x.now) := fun wq pq mq p => signals_any p ⟨x.u.toArray⟩ ⟨x.d.toArray⟩ ⟨x.p.toArray⟩ HS.out.u x.now
              rw [HS0.out] at hs9
              have HD1 := hid hd1
              have HD2 := hid hd2
              have HS8 := hid hs8
              have HS9 := hid hs9
              have HCE2 := hid (fun wq (q : Kept [mb] w0 wq) => And.intro (show wq.cell? ⟨w.heap.size, 1, none⟩ = some (.string ⟨x.u.toArray⟩) by rw [cell_at (q.at HBX.out HNE0.out)]; rfl) (And.intro (show wq.cell? ⟨w.heap.size, 2, none⟩ = some (.string ⟨x.d.toArray⟩) by rw [cell_at (q.at HBX.out HNE0.out)]; rfl) (And.intro (show wq.cell? ⟨w.heap.size, 3, none⟩ = some (.string ⟨x.p.toArray⟩) by rw [cell_at (q.at HBX.out HNE0.out)]; rfl) (show wq.cell? ⟨w.heap.size, 4, none⟩ = some (.int .i64 x.now) by rw [cell_at (q.at HBX.out HNE0.out)]; rfl))))
              clear hd1 hd2 hs8 hs9
              by_cases hz : Z ≤ 549755813888
              · obtain ⟨b6, off6, rfl, hb6, _, hd6⟩ := SigsAt.get HC6.out (i := 2) (by omega)
                rw [HT2.out (by omega) hz] at hd6
                clear hb6
                go_quiet ((first
                  | (go_at_call 20; with_reducible exact HSAQ.out _)
                  | (go_at_call 23; with_reducible exact HKQQ.out _)
                  | (go_at_call 23; with_reducible exact HKPQ.out _)))
                go_wp2_with fail
                have HDD := hid (HD1.out _ (HP6.out.keptN ((Kept.refl [] w6).drewN nq)))
                refine HDD.out.mono ?_
                rintro e w8 ⟨rfl, p8, k8⟩
                have K8 := hid (((K6.out.drewN nq).mono (T := [mb]) (by simp)).step k8 (by simp))
                have HP8 := hid p8
                clear p8 k8 g1 g2 g3 g4
                go_wp2_with fail
                have KA := hid K8.out.drew
                have HPA := hid (HP8.out.keptN (Kept.refl [] w8).drew)
                go_region_held3 (fun w' => w'.cell? ⟨w.heap.size, 1, none⟩ = some (.string ⟨x.u.toArray⟩) ∧ w'.cell? ⟨w.heap.size, 2, none⟩ = some (.string ⟨x.d.toArray⟩) ∧ w'.cell? ⟨w.heap.size, 3, none⟩ = some (.string ⟨x.p.toArray⟩) ∧ w'.cell? ⟨w.heap.size, 4, none⟩ = some (.int .i64 x.now))
                  (first
                    | exact HCE2.out _ KC14
                    | exact HCE2.out _ KC13
                    | exact HCE2.out _ KC12
                    | exact HCE2.out _ KC11
                    | exact HCE2.out _ KC10
                    | exact HCE2.out _ KC9
                    | exact HCE2.out _ KA.out)
                  (first
                    | (go_at_call 10; refine (alive_any _).mono ?_; rintro e w14 ⟨rfl, k14⟩; have KC14 := KC13.step (k14.mono (T := [mb]) (by simp)) (by simp))
                    | (go_at_call 25; refine (HD2.out _ p12).mono ?_; rintro e w13 ⟨rfl, p13, k13⟩; have KC13 := KC12.step k13 (by simp))
                    | (go_at_call 20; refine (sameK_any (s9.keptN (k10.step k11 (by simp))) s11).mono ?_; rintro e w12 ⟨rfl, k12⟩; have KC12 := KC11.step (k12.mono (T := [mb]) (by simp)) (by simp); have p12 := (((HPA.out.keptN k9).keptN k10).keptN k11).keptN k12)
                    | (go_at_call 21; refine (HS9.out _ _ _ h10).mono ?_; rintro e w11 ⟨a11, c11, rfl, s11, k11⟩; have KC11 := KC10.step (k11.mono (T := [mb]) (by simp)) (by simp))
                    | (go_at_call 16; refine (new_prof _).mono ?_; rintro e w10 ⟨rfl, h10, k10, z10⟩; have KC10 := KC9.step (k10.mono (T := [mb]) (by simp)) (by simp))
                    | (go_at_call 21; refine (HS8.out _ HPA.out).mono ?_; rintro e w9 ⟨a9, c9, rfl, s9, k9⟩; have KC9 := KA.out.step (k9.mono (T := [mb]) (by simp)) (by simp)))
                go_wp2_with fail
                go_ret
                exact ⟨rfl, (HK0.out.trans KC14 (fun i hi => .inr (by simp at hi; rw [hi]; exact HB1.out))).bel⟩
              · go_quiet ((first
                  | (go_at_call 20; with_reducible exact HSAQ.out _)
                  | (go_at_call 23; with_reducible exact HKQQ.out _)
                  | (go_at_call 23; with_reducible exact HKPQ.out _)))
                go_wp2_with fail
                have HDD := hid (HD1.out _ (HP6.out.keptN ((Kept.refl [] w6).drewN nq)))
                refine HDD.out.mono ?_
                rintro e w8 ⟨rfl, p8, k8⟩
                have K8 := hid (((K6.out.drewN nq).mono (T := [mb]) (by simp)).step k8 (by simp))
                have HP8 := hid p8
                clear p8 k8 g1 g2 g3 g4
                go_wp2_with fail
                have KA := hid K8.out.drew
                have HPA := hid (HP8.out.keptN (Kept.refl [] w8).drew)
                go_region_held3 (fun w' => w'.cell? ⟨w.heap.size, 1, none⟩ = some (.string ⟨x.u.toArray⟩) ∧ w'.cell? ⟨w.heap.size, 2, none⟩ = some (.string ⟨x.d.toArray⟩) ∧ w'.cell? ⟨w.heap.size, 3, none⟩ = some (.string ⟨x.p.toArray⟩) ∧ w'.cell? ⟨w.heap.size, 4, none⟩ = some (.int .i64 x.now))
                  (first
                    | exact HCE2.out _ KC14
                    | exact HCE2.out _ KC13
                    | exact HCE2.out _ KC12
                    | exact HCE2.out _ KC11
                    | exact HCE2.out _ KC10
                    | exact HCE2.out _ KC9
                    | exact HCE2.out _ KA.out)
                  (first
                    | (go_at_call 10; refine (alive_any _).mono ?_; rintro e w14 ⟨rfl, k14⟩; have KC14 := KC13.step (k14.mono (T := [mb]) (by simp)) (by simp))
                    | (go_at_call 25; refine (HD2.out _ p12).mono ?_; rintro e w13 ⟨rfl, p13, k13⟩; have KC13 := KC12.step k13 (by simp))
                    | (go_at_call 20; refine (sameK_any (s9.keptN (k10.step k11 (by simp))) s11).mono ?_; rintro e w12 ⟨rfl, k12⟩; have KC12 := KC11.step (k12.mono (T := [mb]) (by simp)) (by simp); have p12 := (((HPA.out.keptN k9).keptN k10).keptN k11).keptN k12)
                    | (go_at_call 21; refine (HS9.out _ _ _ h10).mono ?_; rintro e w11 ⟨a11, c11, rfl, s11, k11⟩; have KC11 := KC10.step (k11.mono (T := [mb]) (by simp)) (by simp))
                    | (go_at_call 16; refine (new_prof _).mono ?_; rintro e w10 ⟨rfl, h10, k10, z10⟩; have KC10 := KC9.step (k10.mono (T := [mb]) (by simp)) (by simp))
                    | (go_at_call 21; refine (HS8.out _ HPA.out).mono ?_; rintro e w9 ⟨a9, c9, rfl, s9, k9⟩; have KC9 := KA.out.step (k9.mono (T := [mb]) (by simp)) (by simp)))
                go_wp2_with fail
                go_ret
                exact ⟨rfl, (HK0.out.trans KC14 (fun i hi => .inr (by simp at hi; rw [hi]; exact HB1.out))).bel⟩
  · rw [Bool.not_eq_true] at t1
    rw [t1] at hbr
    clear t1
    go_enter Try.func8, Try.ntmps8
    go_wp2_with fail
    rw [← HW0.out]
    refine hbr.out.mono ?_
    rintro e w' ⟨rfl, rfl⟩
    go_wp2_with fail
    refine (alive_any _).mono ?_
    rintro e w5 ⟨rfl, k5⟩
    go_wp2_with fail
    go_ret
    exact ⟨rfl, (HK0.out.step k5 (by simp)).bel⟩
end Go.Proofs.Ytbcbffmbpoffpaa

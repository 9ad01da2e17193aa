/- SessionEnded: the walk. Printed by gen_ended.py. -/
import Derived.Test.YtakccoiecmibcaaSame
namespace Go.Proofs.Ytakccoiecmibcaa
open Go.RowKit Go.Maps

theorem expU_till (U : Sss) (t : Int) : expU U t = expU U (lim t) := by unfold expU; rw [lim_lim]
theorem present_no {V : Sss} {id : Str} {p : Prf} {now : Int} (h : findC V id now = 6) : presC V id p now = 6 ∧ presU V id p now = V := by
  have e : presC V id p now = 6 := by unfold presC; rw [h]; rfl
  exact ⟨e, by unfold presU; rw [e]; rfl⟩
theorem join_no {V : Sss} {id c : Str} {now : Int} (h : findC V id now = 6) : joinC V id c now = 6 ∧ joinU V id c now = V := by
  have e : joinC V id c now = 6 := by unfold joinC; rw [h]; rfl
  exact ⟨e, by unfold joinU; rw [e]; rfl⟩
theorem touch_no {V : Sss} {i a : Int} {id : Str} {now : Int} (h : findC V id now = 6) : touchU i a V id now = V := by unfold touchU; rw [h]; rfl
theorem end_no {V : Sss} {id : Str} (h : endC V id = 6) : endL V id = [] ∧ endU V id = V := by
  exact ⟨by unfold endL; rw [h]; rfl, by unfold endU; rw [h]; rfl⟩
theorem get_no {V : Sss} {id : Str} {now : Int} (h : findC V id now = 6) : getR V id now = ([], zs) := by unfold getR; rw [if_neg (by rw [h]; decide)]
theorem start_no {V : Sss} {i a : Int} {id u t d : Str} {l : List Prf} {now : Int} (h : startC V id u t d l = 7) : startU i a V id u t d l now = V := by unfold startU; rw [h]; rfl

set_option maxHeartbeats 64000000 in
set_option maxRecDepth 100000 in
theorem ended_walk {w : World} (idle : Int) (_wi : (Lit.int .i64 idle).wf = true) (abs : Int) (_wa : (Lit.int .i64 abs).wf = true) {a : Option Addr} {cap : Nat} {l : List OpD} (h : OpsAt w a l) (id : ByteArray) (hid0 : id.size ≤ maxLen) (now : Int) (_wn : (Lit.int .i64 now).wf = true) :
    Calls Try.prog 5 #[.int .i64 idle, .int .i64 abs, .slice a l.length cap, .string id, .int .i64 now] w fun e w' => e = .returned (.bool true) ∧ Below w.heap.size w w' := by
  have H := hid h
  have hlf := h.cells.few
  unfold maxLen at hlf hid0
  have HLG := hid (light_any (cap := cap) h)
  clear h _wi _wa _wn
  cases t1 : lightB l
  · rw [t1] at HLG
    clear t1
    go_enter Try.func5, Try.ntmps5
    go_wp2_with fail
    refine HLG.out.mono ?_
    rintro e w1 ⟨rfl, k1⟩
    have K1 := hid k1
    clear k1
    go_wp2_with fail
    refine (awake_any _).mono ?_
    rintro e w99 ⟨rfl, k99⟩
    have K99 := hid ((K1.out).step k99 (by simp))
    clear k99
    go_wp2_with fail
    go_ret
    exact ⟨rfl, K99.out.bel⟩
  · rw [t1] at HLG
    obtain ⟨hl24, hsm⟩ := light_ok t1
    have HSM := hid hsm
    clear t1 hsm
    by_cases n0 : 200 < (id.size : Int)
    · skip
      go_enter Try.func5, Try.ntmps5
      go_wp2_with fail
      refine HLG.out.mono ?_
      rintro e w1 ⟨rfl, k1⟩
      have K1 := hid k1
      clear k1
      go_wp2_with fail
      refine (awake_any _).mono ?_
      rintro e w99 ⟨rfl, k99⟩
      have K99 := hid ((K1.out).step k99 (by simp))
      clear k99
      go_wp2_with fail
      go_ret
      exact ⟨rfl, K99.out.bel⟩
    · have HID := hid (show id.size ≤ maxLen by unfold maxLen; omega)
      by_cases hc : newC idle abs = 0
      · have HNW := hid (fun wq (k : Kept [] w wq) => new_st k hc)
        clear hc
        go_enter Try.func5, Try.ntmps5
        go_wp2_with fail
        refine HLG.out.mono ?_
        rintro e w1 ⟨rfl, k1⟩
        have K1 := hid k1
        clear k1
        go_wp2_with fail
        refine (HNW.out _ K1.out).mono ?_
        rintro e w2 ⟨sb, mb, rfl, h2⟩
        have H2 := hid h2.free
        clear h2 HNW
        go_wp2_with fail
        go_loopw [13] (fun i wr => ∃ k : Nat, k ≤ l.length ∧ i = .int .i64 k ∧ St w wr sb mb (lim idle) (lim abs) (runU (lim idle) (lim abs) (l.take k)) [] w2) (fun i _ => l.length - (intOf i).toNat)
        case atStart => exact ⟨0, Nat.zero_le _, rfl, H2.out⟩
        case round =>
          obtain ⟨k, hk, rfl, hst⟩ := hrel
          have HST := hid hst
          clear hst H2
          by_cases hlt : k < l.length
          · obtain ⟨b', off, rfl, hb, hc, hl1⟩ := (H.out.keptN HST.out.kept).get hlt
            have hb1 : (0 : Int) ≤ k := by omega
            have hb2 : (k : Int) < l.length := by omega
            have HSO := hid (HSM.out _ (List.getElem_mem hlt))
            have HN := hid (runU_snoc (lim idle) (lim abs) l k hlt)
            have HL1 := hid hl1
            clear hl1
            generalize l[k] = o at *
            obtain ⟨d0, d1, d2, d3, d4, d5, d6, d7⟩ := hc
            have HD := hid (do_st HST.out o HSO.out HL1.out)
            go_wp2_with fail
            refine HD.out.mono ?_
            rintro e w3 ⟨⟨a3, c3, rfl, _, _⟩, h3⟩
            have H3 := hid h3
            clear h3
            go_wp2_with fail
            go_roundw
            case rel => exact ⟨k + 1, by omega, by go_num, by rw [HN.out]; exact H3.out⟩
            case measure => simp [intOf]; omega
          · have HT := hid (List.take_of_length_le (l := l) (i := k) (by omega))
            rw [HT.out] at HST
            obtain ⟨U, HU⟩ : ∃ U, Hid (U = runU (lim idle) (lim abs) l) := ⟨_, hid rfl⟩
            have HLU := hid (show U.length ≤ 24 by rw [HU.out]; have := (run_good (lim idle) (lim abs) l).2; omega)
            rw [← HU.out] at HST
            have HG := hid HST.out.good
            clear HT
            by_cases hz : findC U id.data.toList now = 0
            · obtain ⟨x, hx, he, hel, hae⟩ := ended_ok HG.out HLU.out hz
              have HR := hid (show getR U id.data.toList now = (id.data.toList, x) by unfold getR; rw [if_pos hz, hx])
              have HAE := hid hae
              obtain ⟨V, HV⟩ : ∃ V, Hid (endU U id.data.toList = V) := ⟨_, hid rfl⟩
              rw [HV.out] at HAE
              have HGET := hid (get_st HST.out id HID.out now hz HR.out)
              have HEND := hid (fun wq (p : List Nat) wp (hq : St w wq sb mb (lim idle) (lim abs) U p wp) => end_st hq id HID.out he hel)
              rw [HV.out] at HEND
              have HLN := hid (fun wq (p : List Nat) wp (hq : St w wq sb mb (lim idle) (lim abs) U p wp) => len_st hq rfl)
              have HLEN := hid HAE.out.len
              obtain ⟨N, HNN⟩ : ∃ N, Hid (lenN V = N) := ⟨_, hid rfl⟩
              clear hx hz he hel hae
              obtain ⟨r, HRR⟩ : ∃ r : Str × Sess, Hid ((id.data.toList, x) = r) := ⟨_, hid rfl⟩
              rw [HRR.out] at HGET
              have HX := hid (show r.2 = x by rw [← HRR.out])
              rw [← HX.out] at HAE HEND
              have HLE := hid (show (N : Int) ≤ 24 ∧ lenN U = N + 1 by rw [HNN.out] at HLEN; have h1 : lenN U ≤ U.length := List.length_filter_le _ _; have := HLU.out; have := HLEN.out; omega)
              obtain ⟨M, HM⟩ : ∃ M, Hid (lenN U = M) := ⟨_, hid rfl⟩
              have hM1 : (1 : Int) ≤ M := by have := HLE.out.2; rw [HM.out] at this; omega
              have hM2 : (M : Int) ≤ 25 := by have := HLE.out; rw [HM.out] at this; omega
              have hM3 : (M : Int) - 1 = N := by have := HLE.out.2; rw [HM.out] at this; omega
              have HLN1 := hid (fun wq (p : List Nat) wp (hq : St w wq sb mb (lim idle) (lim abs) U p wp) => len_st hq HM.out)
              have HA1 := hid (HAE.out.none_ now)
              have HA2 := hid HAE.out.end_
              have HA3 := hid (HAE.out.of_ r.2.user now)
              have HA4 := hid (HAE.out.twice zAnn zT [] [(1, 1)] (by decide) (by decide) (by decide))
              have HA5 := hid (HAE.out.again zAnn zT [] [(1, 1)] (by decide) (by decide) (by decide) (by decide) (by decide))
              obtain ⟨L, HL⟩ : ∃ L, Hid (ofL V r.2.user now = L) := ⟨_, hid rfl⟩
              rw [HL.out] at HA3
              clear HAE HLEN HLN
              go_wp2_with fail
              refine HGET.out.mono ?_
              rintro e w3 ⟨pa3, pc3, ca3, cc3, rfl, s3, t3, m3, n3, k3⟩
              have hb3 := heap_alloc_new w3 (.cells #[.string ⟨r.1.toArray⟩, .string ⟨r.2.user.toArray⟩, .string ⟨r.2.tenant.toArray⟩, .string ⟨r.2.device.toArray⟩, .int .i64 r.2.started, .int .i64 r.2.seen, .int .i64 r.2.until_, .slice pa3 r.2.proofs.length pc3, .slice ca3 r.2.clients.length cc3] 33 (0, 0))
              have ha3 := k3.alloc (.cells #[.string ⟨r.1.toArray⟩, .string ⟨r.2.user.toArray⟩, .string ⟨r.2.tenant.toArray⟩, .string ⟨r.2.device.toArray⟩, .int .i64 r.2.started, .int .i64 r.2.seen, .int .i64 r.2.until_, .slice pa3 r.2.proofs.length pc3, .slice ca3 r.2.clients.length cc3] 33 (0, 0))
              have ht3 := t3.keptN ((Kept.refl [] w3).alloc (.cells #[.string ⟨r.1.toArray⟩, .string ⟨r.2.user.toArray⟩, .string ⟨r.2.tenant.toArray⟩, .string ⟨r.2.device.toArray⟩, .int .i64 r.2.started, .int .i64 r.2.seen, .int .i64 r.2.until_, .slice pa3 r.2.proofs.length pc3, .slice ca3 r.2.clients.length cc3] 33 (0, 0)))
              have hsz3 := k3.size
              have hm3 := HST.out.more ha3 (w3.heap.size :: (if 0 < r.2.clients.length then fp ca3 else [])) (fun i hi => by
                rcases List.mem_cons.1 hi with e | hi
                · rw [e]; exact ⟨hsz3, by simp⟩
                · split at hi
                  · rename_i hl0
                    exact ⟨n3 i hi, fp_lt ht3 hl0 i hi⟩
                  · cases hi)
              obtain ⟨b3, HBB3⟩ : ∃ b, Hid (b = w3.heap.size) := ⟨_, hid rfl⟩
              obtain ⟨w3b, HW3⟩ : ∃ v, Hid (v = w3.alloc (.cells #[.string ⟨r.1.toArray⟩, .string ⟨r.2.user.toArray⟩, .string ⟨r.2.tenant.toArray⟩, .string ⟨r.2.device.toArray⟩, .int .i64 r.2.started, .int .i64 r.2.seen, .int .i64 r.2.until_, .slice pa3 r.2.proofs.length pc3, .slice ca3 r.2.clients.length cc3] 33 (0, 0))) := ⟨_, hid rfl⟩
              rw [← HW3.out] at hb3 ht3 hm3
              rw [← HBB3.out] at hb3 hm3
              have HT3 := hid ht3
              have HB3 := hid hb3
              have H3 := hid hm3
              have HLN3 := hid (HLN1.out _ _ _ H3.out)
              clear hb3 ha3 ht3 hm3 s3 t3 m3 n3 k3 HGET HST hsz3
              go_wp2_with fail
              rw [← HW3.out, ← HBB3.out]
              refine HLN3.out.mono ?_
              rintro e w4 ⟨rfl, k4⟩
              have H4 := hid (H3.out.keptN k4)
              clear k4 H3 HLN3
              go_wp2_with fail
              refine (HEND.out _ _ _ H4.out).mono ?_
              rintro e w5 ⟨a5, c5, rfl, s5, p5, h5⟩
              have HB5 := hid ((p5 b3 (by simp)).trans HB3.out)
              have HT5 := hid (strs_pin HT3.out (fun hl i hi => p5 i (by simp [hl, hi])))
              have HS5 := hid s5
              have H5 := hid h5
              clear s5 p5 h5 H4 HEND
              go_wp2_with fail
              refine (get_st H5.out id HID.out now HA1.out (get_no HA1.out)).mono ?_
              rintro e w6 ⟨pa6, pc6, ca6, cc6, rfl, _, _, _, _, k6⟩
              have KA6 := hid (k6.alloc (.cells #[.string ⟨(([], zs) : Str × Sess).1.toArray⟩, .string ⟨(([], zs) : Str × Sess).2.user.toArray⟩, .string ⟨(([], zs) : Str × Sess).2.tenant.toArray⟩, .string ⟨(([], zs) : Str × Sess).2.device.toArray⟩, .int .i64 (([], zs) : Str × Sess).2.started, .int .i64 (([], zs) : Str × Sess).2.seen, .int .i64 (([], zs) : Str × Sess).2.until_, .slice pa6 (([], zs) : Str × Sess).2.proofs.length pc6, .slice ca6 (([], zs) : Str × Sess).2.clients.length cc6] 33 (0, 0)))
              have H6 := hid (H5.out.keptN KA6.out)
              clear k6
              go_wp2_with fail
              refine (end_st H6.out id HID.out HA2.out (end_no HA2.out).1).mono ?_
              rintro e w7 ⟨a7, c7, rfl, _, p7, h7⟩
              rw [(end_no HA2.out).2, if_neg (by simp)] at h7
              have H7 := hid h7
              have hp7 := p7 b3 (by split <;> simp)
              have HB7 := hid (hp7.trans HB5.out)
              have HT7 := hid (strs_pin HT5.out (fun hl i hi => p7 i (by rw [if_pos hl, if_pos hl]; simp [hi])))
              have HS7 := hid (strs_pin HS5.out (fun hl i hi => p7 i (by rw [if_pos hl]; simp [hi])))
              clear p7 h7 hp7 H6 H5
              obtain ⟨g0, g1, g2, g3, g4, g5, g6, g7, g8, _⟩ := nine_cells HB7.out
              go_wp2_with fail
              refine (of_st H7.out ⟨r.2.user.toArray⟩ now HL.out).mono ?_
              rintro e w8 ⟨a8, c8, rfl, s8, _, k8⟩
              have H8 := hid (H7.out.keptN k8)
              have HB8 := hid (k8.at HB7.out (by simp))
              have HT8 := hid (HT7.out.keptN k8)
              have HS8 := hid (HS7.out.keptN k8)
              have HL8 := hid s8
              have hlf8 := s8.few
              unfold maxLen at hlf8
              clear s8 k8 g0 g1 g2 g3 g4 g5 g6 g7 g8 H7
              go_wp2_with fail
              go_loop [24] (fun i => ∃ j : Nat, j ≤ L.length ∧ i = .int .i64 j) (fun i => L.length - (intOf i).toNat)
              case atStart => exact ⟨0, Nat.zero_le _, rfl⟩
              case round =>
                obtain ⟨j, hj, rfl⟩ := hrel
                by_cases hjl : j < L.length
                · obtain ⟨b9, off9, rfl, hb9, hc9⟩ := StrsAt.get HL8.out hjl
                  unfold sV at hc9
                  have hj1 : (0 : Int) ≤ j := by omega
                  have hj2 : (j : Int) < L.length := by omega
                  have hne : (L[j] == id.toList) = false := by rw [ByteArray.toList_eq, beq_eq_false_iff_ne]; exact fun e => HA3.out (by rw [← e]; exact List.getElem_mem hjl)
                  go_wp2_with fail
                  go_round
                  case rel => exact ⟨j + 1, by omega, by go_num⟩
                  case measure => simp [intOf]; omega
                · have hj2 : ¬ ((j : Int) < L.length) := by omega
                  obtain ⟨g0, g1, g2, g3, g4, g5, g6, g7, g8, _⟩ := nine_cells HB8.out
                  go_wp2_with fail
                  refine (sameS_any HS8.out HT8.out).mono ?_
                  rintro e w9 ⟨rfl, d9⟩
                  have H9 := hid (H8.out.keptN d9.kept)
                  clear d9 H8
                  go_wp2_with fail
                  refine (touch_st H9.out id HID.out now HA1.out).mono ?_
                  rintro e w10 ⟨rfl, h10⟩
                  rw [touch_no HA1.out] at h10
                  have H10 := hid h10
                  clear h10 H9
                  go_wp2_with fail
                  refine (present_st H10.out id HID.out (2, 1) now (present_no HA1.out).1).mono ?_
                  rintro e w11 ⟨rfl, h11⟩
                  rw [(present_no HA1.out).2] at h11
                  have H11 := hid h11
                  clear h11 H10
                  go_wp2_with fail
                  refine (join_st H11.out id ⟨#[119, 101, 98]⟩ HID.out (by decide) now (join_no HA1.out).1).mono ?_
                  rintro e w12 ⟨rfl, h12⟩
                  rw [(join_no HA1.out).2] at h12
                  have H12 := hid h12
                  clear h12 H11
                  go_wp2_with fail
                  refine (len_st H12.out HNN.out).mono ?_
                  rintro e w13 ⟨rfl, k13⟩
                  have H13 := hid (H12.out.keptN k13)
                  clear k13 H12
                  go_wp2_with fail
                  refine (proofs_any 1 _).mono ?_
                  rintro e w14 ⟨rfl, s14, k14⟩
                  have H14 := hid (H13.out.keptN k14)
                  have HS14 := hid s14
                  clear k14 s14 H13
                  go_wp2_with fail
                  refine (start_st H14.out id ⟨#[97, 110, 110]⟩ ⟨#[116]⟩ ⟨#[]⟩ HID.out (by decide) (by decide) (by decide) (cap := 1) HS14.out (by decide) now HA4.out).mono ?_
                  rintro e w15 ⟨rfl, h15⟩
                  change St w w15 sb mb (lim idle) (lim abs) (startU (lim idle) (lim abs) V id.data.toList zAnn zT [] [(1, 1)] now) _ _ at h15
                  rw [start_no HA4.out] at h15
                  have H15 := hid h15
                  clear h15 H14
                  have HB15 := hid ((H15.out.pin (i := b3) (by split <;> simp)).trans HB7.out)
                  clear g0 g1 g2 g3 g4 g5 g6 g7 g8
                  obtain ⟨g0, g1, g2, g3, g4, g5, g6, g7, g8, _⟩ := nine_cells HB15.out
                  go_wp2_with fail
                  refine (expire_st H15.out r.2.until_ rfl).mono ?_
                  rintro e w16 ⟨⟨a16, c16, rfl, _, _⟩, h16⟩
                  have H16 := hid h16
                  clear h16 H15 g0 g1 g2 g3 g4 g5 g6 g7 g8
                  go_wp2_with fail
                  refine (proofs_any 1 _).mono ?_
                  rintro e w17 ⟨rfl, s17, k17⟩
                  have H17 := hid (H16.out.keptN k17)
                  have HS17 := hid s17
                  clear k17 s17 H16
                  go_wp2_with fail
                  refine (start_st H17.out id ⟨#[97, 110, 110]⟩ ⟨#[116]⟩ ⟨#[]⟩ HID.out (by decide) (by decide) (by decide) (cap := 1) HS17.out (by decide) now HA5.out).mono ?_
                  rintro e w18 ⟨rfl, h18⟩
                  have H18 := hid h18
                  clear h18 H17
                  go_wp2_with fail
                  refine (awake_any _).mono ?_
                  rintro e w99 ⟨rfl, k99⟩
                  have K99 := hid ((H18.out.kept).step k99 (by simp))
                  clear k99
                  go_wp2_with fail
                  go_ret
                  exact ⟨rfl, K99.out.bel⟩
            · have HR := hid (show getR U id.data.toList now = ([], zs) by unfold getR; rw [if_neg hz])
              have HD := hid (get_st HST.out id HID.out now rfl HR.out)
              have hzb : (findC U id.data.toList now != 0) = true := by simpa using hz
              generalize findC U id.data.toList now = c at *
              clear hz
              go_wp2_with fail
              refine HD.out.mono ?_
              rintro e w3 ⟨pa3, pc3, ca3, cc3, rfl, _, _, _, _, k3⟩
              have K3 := hid (HST.out.kept.step k3 (by simp))
              clear k3
              go_wp2_with fail
              refine (awake_any _).mono ?_
              rintro e w99 ⟨rfl, k99⟩
              have K99 := hid ((K3.out.alloc _).step k99 (by simp))
              clear k99
              go_wp2_with fail
              go_ret
              exact ⟨rfl, K99.out.bel⟩
      · have HNW := hid (fun wq => new_bad hc wq)
        have hcb : (newC idle abs != 0) = true := by simpa using hc
        generalize newC idle abs = c at *
        clear hc
        go_enter Try.func5, Try.ntmps5
        go_wp2_with fail
        refine HLG.out.mono ?_
        rintro e w1 ⟨rfl, k1⟩
        have K1 := hid k1
        clear k1
        go_wp2_with fail
        refine (HNW.out _).mono ?_
        rintro e w2 ⟨rfl, rfl⟩
        go_wp2_with fail
        refine (awake_any _).mono ?_
        rintro e w99 ⟨rfl, k99⟩
        have K99 := hid ((K1.out).step k99 (by simp))
        clear k99
        go_wp2_with fail
        go_ret
        exact ⟨rfl, K99.out.bel⟩
end Go.Proofs.Ytakccoiecmibcaa

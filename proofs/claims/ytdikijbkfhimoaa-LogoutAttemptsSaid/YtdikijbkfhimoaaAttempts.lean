/- LogoutAttempts, walked: it returns true. Printed by gen_att.py. -/
import Derived.Test.YtdikijbkfhimoaaAttP
import Derived.Test.YtdikijbkfhimoaaCounts
namespace Go.Proofs.Ytdikijbkfhimoaa
open Go.RowKit Go.Maps

theorem play_sorted {delay : Nat} {U : Log} {x : OpD} {m : List Pr} (h : PlayRes delay U x m) : m.Pairwise pairLt := by
  unfold PlayRes at h
  split at h
  · exact h.1
  · rw [h]; exact List.Pairwise.nil
/-- Of the pairs m the first i have been looked at. -/
def SeenTo (m : List Pr) (i times : Nat) (out : Bool) (tN : Nat) (oB : Bool) : Prop := ((sS, cS) ∈ m.take i → tN = times + 1 ∧ oB = true) ∧ ((sS, cS) ∉ m.take i → tN = times ∧ oB = out)
theorem SeenTo.start (m : List Pr) (times : Nat) (out : Bool) : SeenTo m 0 times out times out := ⟨fun h => by simp at h, fun _ => ⟨rfl, rfl⟩⟩
theorem SeenTo.no {m : List Pr} {i times tN : Nat} {out oB : Bool} (h : SeenTo m i times out tN oB) (hi : i < m.length) (hne : m[i] ≠ (sS, cS)) : SeenTo m (i + 1) times out tN oB := by
  have e : (sS, cS) ∈ m.take (i + 1) ↔ (sS, cS) ∈ m.take i := by
    rw [List.take_succ_eq_append_getElem hi, List.mem_append, List.mem_singleton]
    exact ⟨fun h => h.elim id (fun e => absurd e.symm hne), .inl⟩
  exact ⟨fun hm => h.1 (e.1 hm), fun hm => h.2 (fun h2 => hm (e.2 h2))⟩
theorem SeenTo.yes {m : List Pr} {i times tN : Nat} {out oB : Bool} (h : SeenTo m i times out tN oB) (hs : m.Pairwise pairLt) (hi : i < m.length) (he : m[i] = (sS, cS)) : tN = times ∧ oB = out ∧ SeenTo m (i + 1) times out (times + 1) true := by
  have hnot : (sS, cS) ∉ m.take i := fun hm => by
    obtain ⟨j, hj, e⟩ := List.getElem_of_mem hm
    rw [List.length_take] at hj
    rw [List.getElem_take] at e
    have := List.pairwise_iff_getElem.1 hs j i (by omega) hi (by omega)
    rw [e, he] at this
    exact pairLt_irrefl _ this
  obtain ⟨h1, h2⟩ := h.2 hnot
  exact ⟨h1, h2, fun _ => ⟨rfl, rfl⟩, fun hm => absurd (by rw [List.take_succ_eq_append_getElem hi, he]; simp) hm⟩
theorem SeenTo.fin {m : List Pr} {n times tN failed : Nat} {out oB done : Bool} {U' : Log} (h : SeenTo m m.length times out tN oB) (ha : ((sS, cS) ∈ m → out = false ∧ done = false ∧ Att n U' (times + 1) true done failed) ∧ ((sS, cS) ∉ m → Att n U' times out done failed)) : Att n U' tN oB done failed := by
  unfold SeenTo at h
  rw [List.take_length] at h
  by_cases hm : (sS, cS) ∈ m
  · obtain ⟨rfl, rfl⟩ := h.1 hm
    exact (ha.1 hm).2.2
  · obtain ⟨rfl, rfl⟩ := h.2 hm
    exact ha.2 hm
set_option maxHeartbeats 8000000 in
set_option maxRecDepth 100000 in
theorem attempts_walk (mo : Int) (hmo : (Lit.int .u8 mo).wf = true) {w : World} {a : Option Addr} {cap : Nat} {l : List OpD} (h : OpsAt w a l) :
    Calls Try.prog 4 #[.int .u8 mo, .slice a l.length cap] w fun e w' => e = .returned (.bool true) ∧ Below w.heap.size w w' := by
  obtain ⟨m0, m1⟩ := Go.bounds_u8 hmo
  obtain ⟨n, hn⟩ : ∃ n : Nat, ((n : Nat) : Int) = 1 + mo % 8 := ⟨(1 + mo % 8).toNat, by omega⟩
  have hn1 : 1 ≤ n := by omega
  have hn2 : n ≤ 8 := by omega
  have HF := hid (fun (W : World) (k : Kept [] w W) => few_any (cap := cap) (h.keptN k))
  have HH := hid h
  have hf := h.cells.few
  unfold maxLen at hf
  have HNW := hid (fun (W : World) (k0 : Kept [] w W) => new_st k0 (most := n) (delay := 1) hn1 hn2 (by omega) (by omega))
  rw [hn] at HNW
  have HN := hid hn
  have HN1 := hid hn1
  have HN2 := hid hn2
  clear h hmo hn hn1 hn2
  cases hfw : fewB l with
  | false =>
    rw [hfw] at HF
    clear hfw
    go_enter Try.func4, Try.ntmps4
    go_wp2_with (first
      | (go_at_call 11; refine (HNW.out _ (Kept.refl [] w)).mono ?_; rintro e w2 ⟨lb, mb, rfl, h2⟩; have H2 := hid h2; clear h2)
      | (go_at_call 9; refine (HF.out _ H2.out.kept).mono ?_; rintro e w3 ⟨rfl, hk3⟩)
      | (go_at_call 10; refine (alive_any _).mono ?_; rintro e w4 ⟨rfl, hk4⟩))
    go_ret
    exact ⟨rfl, ((H2.out.kept.step hk3 (by simp)).step hk4 (by simp)).toBelow (by simp)⟩
  | true =>
    have HOK := hid (fewB_ok hfw)
    rw [hfw] at HF
    clear hfw
    have HST := hid (att_start n)
    have HMZ := hid (show (⟨#[115]⟩ : ByteArray).size ≤ maxLen by simp [ByteArray.size, maxLen])
    have HCZ := hid (show (⟨#[99]⟩ : ByteArray).size ≤ maxLen by simp [ByteArray.size, maxLen])
    have HMS := hid (show (⟨#[115]⟩ : ByteArray).data.toList = sS from rfl)
    have HCS := hid (show (⟨#[99]⟩ : ByteArray).data.toList = cS from rfl)
    go_enter Try.func4, Try.ntmps4
    go_wp2_with (first
      | (go_at_call 11; refine (HNW.out _ (Kept.refl [] w)).mono ?_; rintro e w2 ⟨lb, mb, rfl, h2⟩; have H2 := hid h2; clear h2)
      | (go_at_call 9; refine (HF.out _ H2.out.kept).mono ?_; rintro e w3 ⟨rfl, hk3⟩; have H3 := hid (H2.out.keptN hk3); clear hk3)
      | (go_at_call 13; refine (begin_st (H3.out.keptN ((Kept.refl [] w3).alloc (.cells #[.string ⟨#[99]⟩, .string ⟨#[100]⟩] 9))) ⟨#[115]⟩ HMZ.out (a := some ⟨w3.heap.size, 0, none⟩) (cap := 2) (cl := [cS, [100]]) (list_box encSOk (heap_alloc_new w3 _) rfl (by simp [maxLen])) (by decide) (by simp) 0).mono ?_; rw [HMS.out, HST.out.1]; rintro e w4 ⟨rfl, h4⟩; have H4 := hid h4; clear h4))
    go_loopw [8, 9, 10, 11, 12] (fun tv ov dv fv iv wr => ∃ k : Nat, k ≤ l.length ∧ iv = .int .i64 (k : Int) ∧ ∃ (U : Log) (times failed : Nat) (out done : Bool), tv = .int .i64 (times : Int) ∧ ov = .bool out ∧ dv = .bool done ∧ fv = .int .i64 (failed : Int) ∧ St w wr lb mb n 1 U [] ∧ Hid (Att n U times out done failed)) (fun _ _ _ _ iv _ => l.length - (intOf iv).toNat)
    case atStart => exact ⟨0, Nat.zero_le _, rfl, _, 0, 0, false, false, rfl, rfl, rfl, rfl, H4.out, hid HST.out.2⟩
    case round =>
      obtain ⟨k, hk, rfl, U, times, failed, out, done, rfl, rfl, rfl, rfl, hS, HA⟩ := hrel
      have HS := hid hS
      have HEND := hid (HA.out.end_ hS.good)
      have hn8 := HN2.out
      have t1 : times ≤ 8 := Nat.le_trans HEND.out.1 HN2.out
      have t2 : failed ≤ 8 := Nat.le_trans HEND.out.2.1 HN2.out
      have t3 : (0 : Int) ≤ times := by omega
      have t4 : (times : Int) ≤ 8 := by omega
      have t5 : (0 : Int) ≤ failed := by omega
      have t6 : (failed : Int) ≤ 8 := by omega
      clear hS t1 t2
      by_cases hlt : k < l.length
      · obtain ⟨b, off, rfl, hb, hc, hL⟩ := HH.out.get hlt
        have hb1 : (0 : Int) ≤ k := by omega
        have hb2 : (k : Int) < l.length := by omega
        have hsm := small_of (HOK.out.2 _ (List.getElem_mem hlt))
        generalize l[k] = x at *
        have HLX := hid hL
        have HSM := hid hsm
        have HCX := hid (fun (W : World) (kw : Kept [] w W) => show OpCells W b (off + k * 5) x from ⟨(kw.cell (p := ⟨b, _, none⟩) hb (by simp)).trans hc.c0, (kw.cell (p := ⟨b, _, none⟩) hb (by simp)).trans hc.c1, (kw.cell (p := ⟨b, _, none⟩) hb (by simp)).trans hc.c2, (kw.cell (p := ⟨b, _, none⟩) hb (by simp)).trans hc.c3, (kw.cell (p := ⟨b, _, none⟩) hb (by simp)).trans hc.c4⟩)
        obtain ⟨c0, c1, c2, c3, c4⟩ := HCX.out wr HS.out.kept
        clear hL hsm hc
        obtain ⟨xk, xi, xc, xl, xn, xa, xq⟩ := x
        dsimp only at *
        by_cases k2 : xk = 2
        · skip
          subst k2
          by_cases hi : xi = [115]
          · subst hi
            by_cases hc : xc = [99]
            · subst hc
              have HAT := hid (HA.out.doneCall HS.out.good)
              have HE := hid (HA.out.endE)
              have ha := HS.out.keptN ((Kept.refl [] wr).alloc (.cells #[.int .i64 2, .string ⟨[115].toArray⟩, .string ⟨[99].toArray⟩, .slice xa xl.length xq, .int .i64 xn] 34))
              have HSP := hid (done_st ha ⟨#[115]⟩ ⟨#[99]⟩ HMZ.out HCZ.out xn)
              rw [HMS.out, HCS.out, HE.out] at HSP
              clear ha
              cases out <;> cases done
              all_goals simp only [if_true, if_false, Bool.false_eq_true, Bool.or_true, Bool.or_false] at HSP HAT
              all_goals go_wp2_with (go_at_call 18; refine HSP.out.mono ?_; rintro e w5 ⟨rfl, h5⟩; have H5 := hid h5; clear h5)
              all_goals exact ⟨⟨k + 1, by omega, by go_num, _, _, _, _, _, rfl, rfl, rfl, by first | rfl | go_num, H5.out, HAT⟩, by simp [intOf]; omega⟩
            · have z2 : (xc == [99]) = false := by rw [beq_eq_false_iff_ne]; exact hc
              have HC9 := hid hc
              clear hc
              have hpl : Plainly ⟨2, [115], xc, xl, xn, xa, xq⟩ := fun h => HC9.out h.2.2
              have HPLN := hid hpl
              have HPL := hid (fun o => play_st (HS.out.keptN ((Kept.refl [] wr).alloc o)) ⟨2, [115], xc, xl, xn, xa, xq⟩ (HLX.out.keptN (HS.out.kept.step ((Kept.refl [] wr).alloc o) (by simp))) HSM.out)
              unfold encO sV at HPL
              dsimp only at HPL
              clear hpl
              go_wp2_with (go_at_call 29; refine (HPL.out _).mono ?_; rintro e w5 ⟨m, a5, cap5, hpr, rfl, hp5, hf5, h5⟩; have H5 := hid h5; have HP5 := hid hp5; have HPR := hid hpr; clear h5 hp5 hpr hf5)
              have HATT := hid (HA.out.play HPLN.out HPR.out)
              have HSRT := hid (play_sorted HPR.out)
              have hml := HP5.out.few
              unfold maxLen at hml
              clear c0 c1 c2 c3 c4
              go_loopw [8, 9, 16] (fun tv ov iv wq => ∃ (i tN : Nat) (oB : Bool), i ≤ m.length ∧ iv = .int .i64 (i : Int) ∧ tv = .int .i64 (tN : Int) ∧ ov = .bool oB ∧ wq = w5 ∧ Hid (SeenTo m i times out tN oB)) (fun _ _ iv _ => m.length - (intOf iv).toNat)
              case atStart => exact ⟨0, times, out, Nat.zero_le _, rfl, rfl, rfl, rfl, hid (SeenTo.start m times out)⟩
              case round =>
                obtain ⟨i, tN, oB, hi, rfl, rfl, rfl, rfl, HSN⟩ := hrel
                by_cases hil : i < m.length
                · obtain ⟨b1, off1, rfl, _, d0, d1⟩ := PrsAt.get HP5.out hil
                  have q1 : (0 : Int) ≤ i := by omega
                  have q2 : (i : Int) < m.length := by omega
                  have HYES := hid (fun (h : m[i] = (sS, cS)) => HSN.out.yes HSRT.out hil h)
                  have HNO := hid (fun (h : m[i] ≠ (sS, cS)) => HSN.out.no hil h)
                  have HIN := hid (fun (h : m[i] = (sS, cS)) => show (sS, cS) ∈ m from by rw [← h]; exact List.getElem_mem hil)
                  generalize m[i] = y at *
                  obtain ⟨y1, y2⟩ := y
                  dsimp only at d0 d1
                  unfold sV at d0 d1
                  by_cases hy1 : y1 = [115]
                  · by_cases hy2 : y2 = [99]
                    · subst hy1
                      subst hy2
                      obtain ⟨o1, o2, _⟩ := HATT.out.1 (HIN.out rfl)
                      obtain ⟨s1, s2, s3⟩ := HYES.out rfl
                      subst o1
                      subst o2
                      subst s1
                      subst s2
                      have S3 := hid s3
                      clear s3
                      go_wp2_with fail
                      go_roundw
                      case rel => exact ⟨i + 1, _, _, by omega, by go_num, by go_num, by trivial, by trivial, S3⟩
                      case measure => simp [intOf]; omega
                    · have z2 : (y2 == [99]) = false := by rw [beq_eq_false_iff_ne]; exact hy2
                      have S3 := hid (HNO.out (fun e => hy2 (congrArg Prod.snd e)))
                      subst hy1
                      clear hy2
                      go_wp2_with fail
                      go_roundw
                      case rel => exact ⟨i + 1, tN, oB, by omega, by go_num, by trivial, by trivial, by trivial, S3⟩
                      case measure => simp [intOf]; omega
                  · have z1 : (y1 == [115]) = false := by rw [beq_eq_false_iff_ne]; exact hy1
                    have S3 := hid (HNO.out (fun e => hy1 (congrArg Prod.fst e)))
                    clear hy1
                    go_wp2_with fail
                    go_roundw
                    case rel => exact ⟨i + 1, tN, oB, by omega, by go_num, by trivial, by trivial, by trivial, S3⟩
                    case measure => simp [intOf]; omega
                · have hii : i = m.length := by omega
                  subst hii
                  have HFIN := hid (HSN.out.fin HATT.out)
                  go_wp2_with fail
                  go_roundw
                  case rel => exact ⟨k + 1, by omega, by go_num, _, tN, failed, oB, done, rfl, rfl, rfl, rfl, H5.out.sub (by simp), HFIN⟩
                  case measure => simp [intOf]; omega
          · have z1 : (xi == [115]) = false := by rw [beq_eq_false_iff_ne]; exact hi
            have HI9 := hid hi
            clear hi
            have hpl : Plainly ⟨2, xi, xc, xl, xn, xa, xq⟩ := fun h => HI9.out h.2.1
            have HPLN := hid hpl
            have HPL := hid (fun o => play_st (HS.out.keptN ((Kept.refl [] wr).alloc o)) ⟨2, xi, xc, xl, xn, xa, xq⟩ (HLX.out.keptN (HS.out.kept.step ((Kept.refl [] wr).alloc o) (by simp))) HSM.out)
            unfold encO sV at HPL
            dsimp only at HPL
            clear hpl
            go_wp2_with (go_at_call 29; refine (HPL.out _).mono ?_; rintro e w5 ⟨m, a5, cap5, hpr, rfl, hp5, hf5, h5⟩; have H5 := hid h5; have HP5 := hid hp5; have HPR := hid hpr; clear h5 hp5 hpr hf5)
            have HATT := hid (HA.out.play HPLN.out HPR.out)
            have HSRT := hid (play_sorted HPR.out)
            have hml := HP5.out.few
            unfold maxLen at hml
            clear c0 c1 c2 c3 c4
            go_loopw [8, 9, 16] (fun tv ov iv wq => ∃ (i tN : Nat) (oB : Bool), i ≤ m.length ∧ iv = .int .i64 (i : Int) ∧ tv = .int .i64 (tN : Int) ∧ ov = .bool oB ∧ wq = w5 ∧ Hid (SeenTo m i times out tN oB)) (fun _ _ iv _ => m.length - (intOf iv).toNat)
            case atStart => exact ⟨0, times, out, Nat.zero_le _, rfl, rfl, rfl, rfl, hid (SeenTo.start m times out)⟩
            case round =>
              obtain ⟨i, tN, oB, hi, rfl, rfl, rfl, rfl, HSN⟩ := hrel
              by_cases hil : i < m.length
              · obtain ⟨b1, off1, rfl, _, d0, d1⟩ := PrsAt.get HP5.out hil
                have q1 : (0 : Int) ≤ i := by omega
                have q2 : (i : Int) < m.length := by omega
                have HYES := hid (fun (h : m[i] = (sS, cS)) => HSN.out.yes HSRT.out hil h)
                have HNO := hid (fun (h : m[i] ≠ (sS, cS)) => HSN.out.no hil h)
                have HIN := hid (fun (h : m[i] = (sS, cS)) => show (sS, cS) ∈ m from by rw [← h]; exact List.getElem_mem hil)
                generalize m[i] = y at *
                obtain ⟨y1, y2⟩ := y
                dsimp only at d0 d1
                unfold sV at d0 d1
                by_cases hy1 : y1 = [115]
                · by_cases hy2 : y2 = [99]
                  · subst hy1
                    subst hy2
                    obtain ⟨o1, o2, _⟩ := HATT.out.1 (HIN.out rfl)
                    obtain ⟨s1, s2, s3⟩ := HYES.out rfl
                    subst o1
                    subst o2
                    subst s1
                    subst s2
                    have S3 := hid s3
                    clear s3
                    go_wp2_with fail
                    go_roundw
                    case rel => exact ⟨i + 1, _, _, by omega, by go_num, by go_num, by trivial, by trivial, S3⟩
                    case measure => simp [intOf]; omega
                  · have z2 : (y2 == [99]) = false := by rw [beq_eq_false_iff_ne]; exact hy2
                    have S3 := hid (HNO.out (fun e => hy2 (congrArg Prod.snd e)))
                    subst hy1
                    clear hy2
                    go_wp2_with fail
                    go_roundw
                    case rel => exact ⟨i + 1, tN, oB, by omega, by go_num, by trivial, by trivial, by trivial, S3⟩
                    case measure => simp [intOf]; omega
                · have z1 : (y1 == [115]) = false := by rw [beq_eq_false_iff_ne]; exact hy1
                  have S3 := hid (HNO.out (fun e => hy1 (congrArg Prod.fst e)))
                  clear hy1
                  go_wp2_with fail
                  go_roundw
                  case rel => exact ⟨i + 1, tN, oB, by omega, by go_num, by trivial, by trivial, by trivial, S3⟩
                  case measure => simp [intOf]; omega
              · have hii : i = m.length := by omega
                subst hii
                have HFIN := hid (HSN.out.fin HATT.out)
                go_wp2_with fail
                go_roundw
                case rel => exact ⟨k + 1, by omega, by go_num, _, tN, failed, oB, done, rfl, rfl, rfl, rfl, H5.out.sub (by simp), HFIN⟩
                case measure => simp [intOf]; omega
        · by_cases k3 : xk = 3
          · skip
            subst k3
            by_cases hi : xi = [115]
            · subst hi
              by_cases hc : xc = [99]
              · subst hc
                have HAT := hid (HA.out.failCall)
                have HE := hid (HA.out.endE)
                have ha := HS.out.keptN ((Kept.refl [] wr).alloc (.cells #[.int .i64 3, .string ⟨[115].toArray⟩, .string ⟨[99].toArray⟩, .slice xa xl.length xq, .int .i64 xn] 34))
                have HSP := hid (fail_st ha ⟨#[115]⟩ ⟨#[99]⟩ HMZ.out HCZ.out xn)
                rw [HMS.out, HCS.out, HE.out] at HSP
                clear ha
                cases out <;> cases done
                all_goals simp only [if_true, if_false, Bool.false_eq_true] at HSP HAT
                all_goals go_wp2_with (go_at_call 20; refine HSP.out.mono ?_; rintro e w5 ⟨rfl, h5⟩; have H5 := hid h5; clear h5)
                all_goals exact ⟨⟨k + 1, by omega, by go_num, _, _, _, _, _, rfl, rfl, rfl, by first | rfl | go_num, H5.out, HAT⟩, by simp [intOf]; omega⟩
              · have z2 : (xc == [99]) = false := by rw [beq_eq_false_iff_ne]; exact hc
                have HC9 := hid hc
                clear hc
                have hpl : Plainly ⟨3, [115], xc, xl, xn, xa, xq⟩ := fun h => HC9.out h.2.2
                have HPLN := hid hpl
                have HPL := hid (fun o => play_st (HS.out.keptN ((Kept.refl [] wr).alloc o)) ⟨3, [115], xc, xl, xn, xa, xq⟩ (HLX.out.keptN (HS.out.kept.step ((Kept.refl [] wr).alloc o) (by simp))) HSM.out)
                unfold encO sV at HPL
                dsimp only at HPL
                clear hpl
                go_wp2_with (go_at_call 29; refine (HPL.out _).mono ?_; rintro e w5 ⟨m, a5, cap5, hpr, rfl, hp5, hf5, h5⟩; have H5 := hid h5; have HP5 := hid hp5; have HPR := hid hpr; clear h5 hp5 hpr hf5)
                have HATT := hid (HA.out.play HPLN.out HPR.out)
                have HSRT := hid (play_sorted HPR.out)
                have hml := HP5.out.few
                unfold maxLen at hml
                clear c0 c1 c2 c3 c4
                go_loopw [8, 9, 16] (fun tv ov iv wq => ∃ (i tN : Nat) (oB : Bool), i ≤ m.length ∧ iv = .int .i64 (i : Int) ∧ tv = .int .i64 (tN : Int) ∧ ov = .bool oB ∧ wq = w5 ∧ Hid (SeenTo m i times out tN oB)) (fun _ _ iv _ => m.length - (intOf iv).toNat)
                case atStart => exact ⟨0, times, out, Nat.zero_le _, rfl, rfl, rfl, rfl, hid (SeenTo.start m times out)⟩
                case round =>
                  obtain ⟨i, tN, oB, hi, rfl, rfl, rfl, rfl, HSN⟩ := hrel
                  by_cases hil : i < m.length
                  · obtain ⟨b1, off1, rfl, _, d0, d1⟩ := PrsAt.get HP5.out hil
                    have q1 : (0 : Int) ≤ i := by omega
                    have q2 : (i : Int) < m.length := by omega
                    have HYES := hid (fun (h : m[i] = (sS, cS)) => HSN.out.yes HSRT.out hil h)
                    have HNO := hid (fun (h : m[i] ≠ (sS, cS)) => HSN.out.no hil h)
                    have HIN := hid (fun (h : m[i] = (sS, cS)) => show (sS, cS) ∈ m from by rw [← h]; exact List.getElem_mem hil)
                    generalize m[i] = y at *
                    obtain ⟨y1, y2⟩ := y
                    dsimp only at d0 d1
                    unfold sV at d0 d1
                    by_cases hy1 : y1 = [115]
                    · by_cases hy2 : y2 = [99]
                      · subst hy1
                        subst hy2
                        obtain ⟨o1, o2, _⟩ := HATT.out.1 (HIN.out rfl)
                        obtain ⟨s1, s2, s3⟩ := HYES.out rfl
                        subst o1
                        subst o2
                        subst s1
                        subst s2
                        have S3 := hid s3
                        clear s3
                        go_wp2_with fail
                        go_roundw
                        case rel => exact ⟨i + 1, _, _, by omega, by go_num, by go_num, by trivial, by trivial, S3⟩
                        case measure => simp [intOf]; omega
                      · have z2 : (y2 == [99]) = false := by rw [beq_eq_false_iff_ne]; exact hy2
                        have S3 := hid (HNO.out (fun e => hy2 (congrArg Prod.snd e)))
                        subst hy1
                        clear hy2
                        go_wp2_with fail
                        go_roundw
                        case rel => exact ⟨i + 1, tN, oB, by omega, by go_num, by trivial, by trivial, by trivial, S3⟩
                        case measure => simp [intOf]; omega
                    · have z1 : (y1 == [115]) = false := by rw [beq_eq_false_iff_ne]; exact hy1
                      have S3 := hid (HNO.out (fun e => hy1 (congrArg Prod.fst e)))
                      clear hy1
                      go_wp2_with fail
                      go_roundw
                      case rel => exact ⟨i + 1, tN, oB, by omega, by go_num, by trivial, by trivial, by trivial, S3⟩
                      case measure => simp [intOf]; omega
                  · have hii : i = m.length := by omega
                    subst hii
                    have HFIN := hid (HSN.out.fin HATT.out)
                    go_wp2_with fail
                    go_roundw
                    case rel => exact ⟨k + 1, by omega, by go_num, _, tN, failed, oB, done, rfl, rfl, rfl, rfl, H5.out.sub (by simp), HFIN⟩
                    case measure => simp [intOf]; omega
            · have z1 : (xi == [115]) = false := by rw [beq_eq_false_iff_ne]; exact hi
              have HI9 := hid hi
              clear hi
              have hpl : Plainly ⟨3, xi, xc, xl, xn, xa, xq⟩ := fun h => HI9.out h.2.1
              have HPLN := hid hpl
              have HPL := hid (fun o => play_st (HS.out.keptN ((Kept.refl [] wr).alloc o)) ⟨3, xi, xc, xl, xn, xa, xq⟩ (HLX.out.keptN (HS.out.kept.step ((Kept.refl [] wr).alloc o) (by simp))) HSM.out)
              unfold encO sV at HPL
              dsimp only at HPL
              clear hpl
              go_wp2_with (go_at_call 29; refine (HPL.out _).mono ?_; rintro e w5 ⟨m, a5, cap5, hpr, rfl, hp5, hf5, h5⟩; have H5 := hid h5; have HP5 := hid hp5; have HPR := hid hpr; clear h5 hp5 hpr hf5)
              have HATT := hid (HA.out.play HPLN.out HPR.out)
              have HSRT := hid (play_sorted HPR.out)
              have hml := HP5.out.few
              unfold maxLen at hml
              clear c0 c1 c2 c3 c4
              go_loopw [8, 9, 16] (fun tv ov iv wq => ∃ (i tN : Nat) (oB : Bool), i ≤ m.length ∧ iv = .int .i64 (i : Int) ∧ tv = .int .i64 (tN : Int) ∧ ov = .bool oB ∧ wq = w5 ∧ Hid (SeenTo m i times out tN oB)) (fun _ _ iv _ => m.length - (intOf iv).toNat)
              case atStart => exact ⟨0, times, out, Nat.zero_le _, rfl, rfl, rfl, rfl, hid (SeenTo.start m times out)⟩
              case round =>
                obtain ⟨i, tN, oB, hi, rfl, rfl, rfl, rfl, HSN⟩ := hrel
                by_cases hil : i < m.length
                · obtain ⟨b1, off1, rfl, _, d0, d1⟩ := PrsAt.get HP5.out hil
                  have q1 : (0 : Int) ≤ i := by omega
                  have q2 : (i : Int) < m.length := by omega
                  have HYES := hid (fun (h : m[i] = (sS, cS)) => HSN.out.yes HSRT.out hil h)
                  have HNO := hid (fun (h : m[i] ≠ (sS, cS)) => HSN.out.no hil h)
                  have HIN := hid (fun (h : m[i] = (sS, cS)) => show (sS, cS) ∈ m from by rw [← h]; exact List.getElem_mem hil)
                  generalize m[i] = y at *
                  obtain ⟨y1, y2⟩ := y
                  dsimp only at d0 d1
                  unfold sV at d0 d1
                  by_cases hy1 : y1 = [115]
                  · by_cases hy2 : y2 = [99]
                    · subst hy1
                      subst hy2
                      obtain ⟨o1, o2, _⟩ := HATT.out.1 (HIN.out rfl)
                      obtain ⟨s1, s2, s3⟩ := HYES.out rfl
                      subst o1
                      subst o2
                      subst s1
                      subst s2
                      have S3 := hid s3
                      clear s3
                      go_wp2_with fail
                      go_roundw
                      case rel => exact ⟨i + 1, _, _, by omega, by go_num, by go_num, by trivial, by trivial, S3⟩
                      case measure => simp [intOf]; omega
                    · have z2 : (y2 == [99]) = false := by rw [beq_eq_false_iff_ne]; exact hy2
                      have S3 := hid (HNO.out (fun e => hy2 (congrArg Prod.snd e)))
                      subst hy1
                      clear hy2
                      go_wp2_with fail
                      go_roundw
                      case rel => exact ⟨i + 1, tN, oB, by omega, by go_num, by trivial, by trivial, by trivial, S3⟩
                      case measure => simp [intOf]; omega
                  · have z1 : (y1 == [115]) = false := by rw [beq_eq_false_iff_ne]; exact hy1
                    have S3 := hid (HNO.out (fun e => hy1 (congrArg Prod.fst e)))
                    clear hy1
                    go_wp2_with fail
                    go_roundw
                    case rel => exact ⟨i + 1, tN, oB, by omega, by go_num, by trivial, by trivial, by trivial, S3⟩
                    case measure => simp [intOf]; omega
                · have hii : i = m.length := by omega
                  subst hii
                  have HFIN := hid (HSN.out.fin HATT.out)
                  go_wp2_with fail
                  go_roundw
                  case rel => exact ⟨k + 1, by omega, by go_num, _, tN, failed, oB, done, rfl, rfl, rfl, rfl, H5.out.sub (by simp), HFIN⟩
                  case measure => simp [intOf]; omega
          · have i2 : decide (xk = 2) = false := decide_eq_false k2
            have i3 : decide (xk = 3) = false := decide_eq_false k3
            have i4 : (xk == 2) = false := by rw [beq_eq_false_iff_ne]; exact k2
            have i5 : (xk == 3) = false := by rw [beq_eq_false_iff_ne]; exact k3
            have HK9 := hid (And.intro k2 k3)
            clear k2 k3
            have hpl : Plainly ⟨xk, xi, xc, xl, xn, xa, xq⟩ := fun h => h.1.elim HK9.out.1 HK9.out.2
            have HPLN := hid hpl
            have HPL := hid (fun o => play_st (HS.out.keptN ((Kept.refl [] wr).alloc o)) ⟨xk, xi, xc, xl, xn, xa, xq⟩ (HLX.out.keptN (HS.out.kept.step ((Kept.refl [] wr).alloc o) (by simp))) HSM.out)
            unfold encO sV at HPL
            dsimp only at HPL
            clear hpl
            go_wp2_with (go_at_call 29; refine (HPL.out _).mono ?_; rintro e w5 ⟨m, a5, cap5, hpr, rfl, hp5, hf5, h5⟩; have H5 := hid h5; have HP5 := hid hp5; have HPR := hid hpr; clear h5 hp5 hpr hf5)
            have HATT := hid (HA.out.play HPLN.out HPR.out)
            have HSRT := hid (play_sorted HPR.out)
            have hml := HP5.out.few
            unfold maxLen at hml
            clear c0 c1 c2 c3 c4
            go_loopw [8, 9, 16] (fun tv ov iv wq => ∃ (i tN : Nat) (oB : Bool), i ≤ m.length ∧ iv = .int .i64 (i : Int) ∧ tv = .int .i64 (tN : Int) ∧ ov = .bool oB ∧ wq = w5 ∧ Hid (SeenTo m i times out tN oB)) (fun _ _ iv _ => m.length - (intOf iv).toNat)
            case atStart => exact ⟨0, times, out, Nat.zero_le _, rfl, rfl, rfl, rfl, hid (SeenTo.start m times out)⟩
            case round =>
              obtain ⟨i, tN, oB, hi, rfl, rfl, rfl, rfl, HSN⟩ := hrel
              by_cases hil : i < m.length
              · obtain ⟨b1, off1, rfl, _, d0, d1⟩ := PrsAt.get HP5.out hil
                have q1 : (0 : Int) ≤ i := by omega
                have q2 : (i : Int) < m.length := by omega
                have HYES := hid (fun (h : m[i] = (sS, cS)) => HSN.out.yes HSRT.out hil h)
                have HNO := hid (fun (h : m[i] ≠ (sS, cS)) => HSN.out.no hil h)
                have HIN := hid (fun (h : m[i] = (sS, cS)) => show (sS, cS) ∈ m from by rw [← h]; exact List.getElem_mem hil)
                generalize m[i] = y at *
                obtain ⟨y1, y2⟩ := y
                dsimp only at d0 d1
                unfold sV at d0 d1
                by_cases hy1 : y1 = [115]
                · by_cases hy2 : y2 = [99]
                  · subst hy1
                    subst hy2
                    obtain ⟨o1, o2, _⟩ := HATT.out.1 (HIN.out rfl)
                    obtain ⟨s1, s2, s3⟩ := HYES.out rfl
                    subst o1
                    subst o2
                    subst s1
                    subst s2
                    have S3 := hid s3
                    clear s3
                    go_wp2_with fail
                    go_roundw
                    case rel => exact ⟨i + 1, _, _, by omega, by go_num, by go_num, by trivial, by trivial, S3⟩
                    case measure => simp [intOf]; omega
                  · have z2 : (y2 == [99]) = false := by rw [beq_eq_false_iff_ne]; exact hy2
                    have S3 := hid (HNO.out (fun e => hy2 (congrArg Prod.snd e)))
                    subst hy1
                    clear hy2
                    go_wp2_with fail
                    go_roundw
                    case rel => exact ⟨i + 1, tN, oB, by omega, by go_num, by trivial, by trivial, by trivial, S3⟩
                    case measure => simp [intOf]; omega
                · have z1 : (y1 == [115]) = false := by rw [beq_eq_false_iff_ne]; exact hy1
                  have S3 := hid (HNO.out (fun e => hy1 (congrArg Prod.fst e)))
                  clear hy1
                  go_wp2_with fail
                  go_roundw
                  case rel => exact ⟨i + 1, tN, oB, by omega, by go_num, by trivial, by trivial, by trivial, S3⟩
                  case measure => simp [intOf]; omega
              · have hii : i = m.length := by omega
                subst hii
                have HFIN := hid (HSN.out.fin HATT.out)
                go_wp2_with fail
                go_roundw
                case rel => exact ⟨k + 1, by omega, by go_num, _, tN, failed, oB, done, rfl, rfl, rfl, rfl, H5.out.sub (by simp), HFIN⟩
                case measure => simp [intOf]; omega
      · obtain ⟨e1, e2, e3, e4, e5⟩ := HEND.out
        clear HEND
        obtain ⟨X, Y, Z, HXYZ⟩ : ∃ X Y Z, Hid (statS U sS = (X, Y, Z)) := ⟨_, _, _, hid rfl⟩
        rw [HXYZ.out] at e3 e4 e5
        dsimp only at e3 e4 e5
        have hnn := HN.out
        have f1 : (times : Int) ≤ 1 + mo % 8 := by omega
        have f2 : (failed : Int) ≤ 1 + mo % 8 := by omega
        have f3 : (X : Int) + Y + Z = 2 := by omega
        have f4 : (0 : Int) ≤ X := by omega
        have f5 : (0 : Int) ≤ Y := by omega
        have f6 : (0 : Int) ≤ Z := by omega
        have f7 : (X : Int) ≤ 2 := by omega
        have f8 : (Y : Int) ≤ 2 := by omega
        have f9 : (Z : Int) ≤ 2 := by omega
        have HSX := hid (status_st HS.out ⟨#[115]⟩ HMZ.out)
        rw [HMS.out, HXYZ.out] at HSX
        dsimp only at HSX
        have g1 : done = true → (1 : Int) ≤ X := fun h => by have := e4 h; omega
        have g2 : ¬ (failed : Int) < 1 + mo % 8 → (1 : Int) ≤ Y := fun h => by
          rcases e5 with e | e
          · exact absurd (by omega) h
          · omega
        clear e1 e2 e3 e4 e5 hnn hn8
        cases done with
        | true =>
          have g3 := g1 rfl
          by_cases hfn : (failed : Int) < 1 + mo % 8
          · clear g1 g2
            go_wp2_with (first
              | (go_at_call 22; refine HSX.out.mono ?_; rintro e w5 ⟨rfl, h5⟩; have H5 := hid h5; clear h5)
              | (go_at_call 10; refine (alive_any _).mono ?_; rintro e w6 ⟨rfl, hk6⟩))
            go_ret
            exact ⟨rfl, (H5.out.kept.step hk6 (by simp)).toBelow (by simp)⟩
          · have g4 := g2 hfn
            clear g1 g2
            go_wp2_with (first
              | (go_at_call 22; refine HSX.out.mono ?_; rintro e w5 ⟨rfl, h5⟩; have H5 := hid h5; clear h5)
              | (go_at_call 10; refine (alive_any _).mono ?_; rintro e w6 ⟨rfl, hk6⟩))
            go_ret
            exact ⟨rfl, (H5.out.kept.step hk6 (by simp)).toBelow (by simp)⟩
        | false =>
          by_cases hfn : (failed : Int) < 1 + mo % 8
          · clear g1 g2
            go_wp2_with (first
              | (go_at_call 22; refine HSX.out.mono ?_; rintro e w5 ⟨rfl, h5⟩; have H5 := hid h5; clear h5)
              | (go_at_call 10; refine (alive_any _).mono ?_; rintro e w6 ⟨rfl, hk6⟩))
            go_ret
            exact ⟨rfl, (H5.out.kept.step hk6 (by simp)).toBelow (by simp)⟩
          · have g4 := g2 hfn
            clear g1 g2
            go_wp2_with (first
              | (go_at_call 22; refine HSX.out.mono ?_; rintro e w5 ⟨rfl, h5⟩; have H5 := hid h5; clear h5)
              | (go_at_call 10; refine (alive_any _).mono ?_; rintro e w6 ⟨rfl, hk6⟩))
            go_ret
            exact ⟨rfl, (H5.out.kept.step hk6 (by simp)).toBelow (by simp)⟩
end Go.Proofs.Ytdikijbkfhimoaa

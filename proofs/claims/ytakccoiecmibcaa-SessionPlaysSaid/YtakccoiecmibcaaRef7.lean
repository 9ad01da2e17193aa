/- Start of the reference. Printed by gen_sref7.py. -/
import Derived.Test.YtakccoiecmibcaaRef6
import Derived.Deep.RegionLaw
namespace Go.Proofs.Ytakccoiecmibcaa
open Go.RowKit Go.Maps

set_option maxHeartbeats 16000000 in
set_option maxRecDepth 100000 in
theorem rstart_any {w : World} {qb : Nat} {idle abs : Int} {a : Option Addr} {cap : Nat} {Y : List EP} (h : RefAt w qb idle abs a cap Y) (s user tenant device : ByteArray) (hs : s.size ≤ maxLen) (hu : user.size ≤ maxLen) (ht : tenant.size ≤ maxLen) (hv : device.size ≤ maxLen) {pa : Option Addr} {pc : Nat} {l : List Prf} (hl : PrfsAt w pa l) (hlen : l.length ≤ 100) (now : Int) :
    Calls Try.prog 42 #[.pointer (some ⟨qb, 0, none⟩), .string s, .string user, .string tenant, .string device, .slice pa l.length pc, .int .i64 now] w fun e w' => e = .returned (.int .i64 (startC (absK Y) s.data.toList user.data.toList tenant.data.toList device.data.toList l)) ∧ RLeft w w' qb idle abs a Y (startU idle abs (absK Y) s.data.toList user.data.toList tenant.data.toList device.data.toList l now) := by
  have c0 := h.c0
  have HF := hid (rfind_any h s)
  have HH := hid h
  have HL := hid hl
  have EU := hid (show startU idle abs (absK Y) s.data.toList user.data.toList tenant.data.toList device.data.toList l now = if startC (absK Y) s.data.toList user.data.toList tenant.data.toList device.data.toList l = 0 then absK Y ++ [(s.data.toList, newX idle abs user.data.toList tenant.data.toList device.data.toList l now)] else absK Y from rfl)
  have H1 := hid (rword_any s w hs)
  have H2 := hid (rword_any user w hu)
  have H3 := hid (rword_any tenant w ht)
  have H4 := hid (rword_any device w hv)
  cases w1 : wordB s.data.toList
  · rw [w1] at H1
    have E := hid (show startC (absK Y) s.data.toList user.data.toList tenant.data.toList device.data.toList l = 5 from start_noword (by rw [w1]; simp))
    rw [E.out] at EU
    rw [E.out, EU.out]
    clear h hl
    go_enter Try.func42, Try.ntmps42
    go_wp2_with (first | (go_at_call 49; refine (rmade_any c0).mono ?_; rintro e w' ⟨rfl, rfl⟩) | (go_at_call 40; refine (rlimited_any _ _).mono ?_; rintro e w' ⟨rfl, rfl⟩))
    refine H1.out.mono ?_
    rintro e w' ⟨rfl, rfl⟩
    go_wp2_with fail
    go_ret
    exact ⟨rfl, RLeft.same HH.out (Kept.refl _ _)⟩
  · rw [w1] at H1
    cases w2 : wordB user.data.toList
    · rw [w2] at H2
      have E := hid (show startC (absK Y) s.data.toList user.data.toList tenant.data.toList device.data.toList l = 5 from start_noword (by rw [w1, w2]; simp))
      rw [E.out] at EU
      rw [E.out, EU.out]
      clear h hl
      go_enter Try.func42, Try.ntmps42
      go_wp2_with (first | (go_at_call 49; refine (rmade_any c0).mono ?_; rintro e w' ⟨rfl, rfl⟩) | (go_at_call 40; refine (rlimited_any _ _).mono ?_; rintro e w' ⟨rfl, rfl⟩))
      refine H1.out.mono ?_
      rintro e w' ⟨rfl, rfl⟩
      go_wp2_with fail
      refine H2.out.mono ?_
      rintro e w' ⟨rfl, rfl⟩
      go_wp2_with fail
      go_ret
      exact ⟨rfl, RLeft.same HH.out (Kept.refl _ _)⟩
    · rw [w2] at H2
      cases w3 : wordB tenant.data.toList
      · rw [w3] at H3
        have E := hid (show startC (absK Y) s.data.toList user.data.toList tenant.data.toList device.data.toList l = 5 from start_noword (by rw [w1, w2, w3]; simp))
        rw [E.out] at EU
        rw [E.out, EU.out]
        clear h hl
        go_enter Try.func42, Try.ntmps42
        go_wp2_with (first | (go_at_call 49; refine (rmade_any c0).mono ?_; rintro e w' ⟨rfl, rfl⟩) | (go_at_call 40; refine (rlimited_any _ _).mono ?_; rintro e w' ⟨rfl, rfl⟩))
        refine H1.out.mono ?_
        rintro e w' ⟨rfl, rfl⟩
        go_wp2_with fail
        refine H2.out.mono ?_
        rintro e w' ⟨rfl, rfl⟩
        go_wp2_with fail
        refine H3.out.mono ?_
        rintro e w' ⟨rfl, rfl⟩
        go_wp2_with fail
        go_ret
        exact ⟨rfl, RLeft.same HH.out (Kept.refl _ _)⟩
      · rw [w3] at H3
        by_cases hde : device.data.toList = []
        · have hdb : (device.data.toList != []) = false := by simp [hde]
          have hdb2 : (device.toList == ([] : List UInt8)) = true := by rw [ByteArray.toList_eq, hde]; rfl
          have HDE := hid (show devB device.data.toList = true by unfold devB; rw [hde]; rfl)
          clear hde
          have HWW := hid (show (wordB s.data.toList && wordB user.data.toList && wordB tenant.data.toList && devB device.data.toList) = true by rw [w1, w2, w3]; exact HDE.out)
          have HC := hid (start_word (U := absK Y) (l := l) HWW.out)
          rcases look_idx (Y := Y) (k := s.data.toList) with ⟨hx, hq⟩ | ⟨i, hi, hx, hk, hq⟩
          · rw [hx] at HF
            have HC2 := hid (show startC (absK Y) s.data.toList user.data.toList tenant.data.toList device.data.toList l = if l.length = 0 then 21 else if addsE l ≠ 0 then addsE l else if 256 ≤ (absK Y).length then 3 else 0 by rw [HC.out, hq]; rfl)
            have HQ := hid hq
            clear h hl hq HC hx
            by_cases hz : l.length = 0
            · have E := hid (show startC (absK Y) s.data.toList user.data.toList tenant.data.toList device.data.toList l = 21 by rw [HC2.out, if_pos hz])
              rw [E.out] at EU
              rw [E.out, EU.out]
              have hz2 : ((l.length : Int) == 0) = true := by rw [hz]; rfl
              clear HC2
              go_enter Try.func42, Try.ntmps42
              go_wp2_with (first | (go_at_call 49; refine (rmade_any c0).mono ?_; rintro e w' ⟨rfl, rfl⟩) | (go_at_call 40; refine (rlimited_any _ _).mono ?_; rintro e w' ⟨rfl, rfl⟩))
              refine H1.out.mono ?_
              rintro e w' ⟨rfl, rfl⟩
              go_wp2_with fail
              refine H2.out.mono ?_
              rintro e w' ⟨rfl, rfl⟩
              go_wp2_with fail
              refine H3.out.mono ?_
              rintro e w' ⟨rfl, rfl⟩
              go_wp2_with fail
              refine HF.out.mono ?_
              rintro e w' ⟨rfl, rfl⟩
              go_wp2_with fail
              go_ret
              exact ⟨rfl, RLeft.same HH.out (Kept.refl _ _)⟩
            · have HZ := hid hz
              have hz2 : ((l.length : Int) == 0) = false := by rw [beq_eq_false_iff_ne]; omega
              clear hz
              have hb2 := heap_alloc_new w (.cells #[.string s, .string user, .string tenant, .string device, .int .i64 (lim now), .int .i64 (lim now), .int .i64 0, .slice none 0 0, .slice none 0 0] 33 (0, 0))
              have hk2 := (Kept.refl [] w).alloc (.cells #[.string s, .string user, .string tenant, .string device, .int .i64 (lim now), .int .i64 (lim now), .int .i64 0, .slice none 0 0, .slice none 0 0] 33 (0, 0))
              obtain ⟨b9, HBB⟩ : ∃ b, Hid (b = w.heap.size) := ⟨_, hid rfl⟩
              obtain ⟨w2, HW2⟩ : ∃ v, Hid (v = w.alloc (.cells #[.string s, .string user, .string tenant, .string device, .int .i64 (lim now), .int .i64 (lim now), .int .i64 0, .slice none 0 0, .slice none 0 0] 33 (0, 0))) := ⟨_, hid rfl⟩
              rw [← HW2.out] at hb2 hk2
              rw [← HBB.out] at hb2
              have HB2 := hid hb2
              have HK2 := hid hk2
              clear hb2 hk2
              go_enter Try.func42, Try.ntmps42
              go_wp2_with (first | (go_at_call 49; refine (rmade_any c0).mono ?_; rintro e w' ⟨rfl, rfl⟩) | (go_at_call 40; refine (rlimited_any _ _).mono ?_; rintro e w' ⟨rfl, rfl⟩))
              refine H1.out.mono ?_
              rintro e w' ⟨rfl, rfl⟩
              go_wp2_with fail
              refine H2.out.mono ?_
              rintro e w' ⟨rfl, rfl⟩
              go_wp2_with fail
              refine H3.out.mono ?_
              rintro e w' ⟨rfl, rfl⟩
              go_wp2_with fail
              refine HF.out.mono ?_
              rintro e w' ⟨rfl, rfl⟩
              go_wp2_with fail
              rw [← HW2.out, ← HBB.out]
              go_loopw [16] (fun i wr => ∃ (k : Nat) (M : List Prf) (a1 : Option Addr) (c1 : Nat), k ≤ l.length ∧ i = .int .i64 k ∧ M = addsL (l.take k) ∧ NoneTo badP l k ∧ OwnP w wr a1 c1 M ∧ (∀ j ∈ fp a1, b9 < j) ∧ wr.heap[b9]? = some (.cells #[.string s, .string user, .string tenant, .string device, .int .i64 (lim now), .int .i64 (lim now), .int .i64 0, .slice a1 M.length c1, .slice none 0 0] 33 (0, 0))) (fun i _ => l.length - (intOf i).toNat)
              case atStart => exact ⟨0, [], none, 0, Nat.zero_le _, rfl, rfl, NoneTo.zero _ _, ⟨World.ownsRow_nil _ _ _ _, HK2.out, by simp [fp]⟩, by simp [fp], HB2.out⟩
              case round =>
                obtain ⟨k, M, a1, c1, hk, rfl, hM, hnn, ho, hgt, hb9⟩ := hrel
                have hml : M.length ≤ k := by rw [hM]; exact adds_few l k
                have HMM := hid hM
                have HN := hid hnn
                have HO := hid ho
                have HGT := hid hgt
                have HB9 := hid hb9
                clear hM hnn hgt
                by_cases hlt : k < l.length
                · obtain ⟨b, off, rfl, hb, hc0, hc1⟩ := PrfsAt.get (HL.out.keptN ho.kept) hlt
                  have hb1 : (0 : Int) ≤ k := by omega
                  have hb2 : (k : Int) < l.length := by omega
                  have HLT := hid hlt
                  have HSN := hid (addsL_snoc l k hlt)
                  have HYES := hid (fun e => HN.out.next hlt e)
                  have HAT := hid (fun e => addsE_at HN.out hlt e)
                  have HBP := hid (show badP l[k] = (addE l[k] != 0) from rfl)
                  clear ho
                  generalize l[k] = p at *
                  have s7 : wr.cell? ⟨b9, 7, none⟩ = some (.slice a1 M.length c1) := by rw [cell_at hb9]; rfl
                  have HAD := hid (fun wq (kq : Kept [] wr wq) => rpadd_any (cap := c1) ((HO.out.seq encPOk).keptN kq) (by omega) p)
                  clear hb9
                  have HBL := hid (HBB.out)
                  by_cases he : addE p = 0
                  · have HAD1 := hid (fun wq kq => (HAD.out wq kq).mono fun _ _ h => h.ok he)
                    have HY2 := hid (HYES.out (by rw [HBP.out, he]; rfl))
                    have HKA := hid (show addL M p = addsL (l.take (k + 1)) by rw [HSN.out, HMM.out])
                    obtain ⟨M2, HM2⟩ : ∃ M2, Hid (addL M p = M2) := ⟨_, hid rfl⟩
                    rw [HM2.out] at HAD1 HKA
                    clear he
                    go_wp2_with fail
                    go_region_with (go_at_call 64; refine (HAD1.out _ (Kept.refl _ _).drew).mono ?_; rintro e w9 ⟨a2, c2, rfl, o2⟩)
                    all_goals (
                      have hb3 := o2.kept.at ((Kept.refl [] wr).drew.at HB9.out (by simp)) (by simp)
                      have u7 : w9.cell? ⟨b9, 7, none⟩ = some (.slice a1 M.length c1) := by rw [cell_at hb3]; rfl
                      have g7 := free_at hb3 7
                      have hb4 := heap_setCell_same w9 b9 7 _ _ (.slice a2 M2.length c2) hb3
                      have hbl := lt_of_heap HB9.out
                      have HG2 := hid (fun j (hj : j ∈ fp a2) => (show b9 < j from Nat.lt_of_lt_of_le hbl (o2.new j hj)))
                      have HO4 := hid ((o2.rebase HO.out.kept.drew).beside ((Kept.refl [b9] w9).setCell (p := ⟨b9, 7, none⟩) (.inl (by simp)) (.slice a2 M2.length c2)) (fun i hi => by simp at hi; rw [hi, HBB.out]; exact Nat.le_refl _) (fun i hi hm => by simp at hi; subst hi; exact absurd (HG2.out _ hm) (Nat.lt_irrefl _)))
                      obtain ⟨w5, HW5⟩ : ∃ v, Hid (v = w9.setCell ⟨b9, 7, none⟩ (.slice a2 M2.length c2)) := ⟨_, hid rfl⟩
                      rw [← HW5.out] at hb4 HO4
                      have HB4 := hid hb4
                      clear hb3 hb4 hbl
                      go_wp2_with fail
                      rw [← HW5.out]
                      go_roundw
                      case rel => exact ⟨k + 1, M2, a2, c2, by have := HLT.out; omega, by go_num, HKA.out, HY2.out, HO4.out, HG2.out, HB4.out⟩
                      case measure => simp [intOf]; omega)
                  · have HAD1 := hid (fun wq kq => (HAD.out wq kq).mono fun _ _ h => h.err he)
                    have HE := hid (HAT.out (by rw [HBP.out]; simpa using he))
                    have E := hid (show startC (absK Y) s.data.toList user.data.toList tenant.data.toList device.data.toList l = addE p by rw [HC2.out, if_neg HZ.out, if_pos (by rw [HE.out.1]; exact he), HE.out.1])
                    rw [E.out, if_neg he] at EU
                    have hne : (addE p != 0) = true := by simpa using he
                    generalize addE p = c at *
                    clear he
                    go_wp2_with fail
                    go_region_with (go_at_call 64; refine (HAD1.out _ (Kept.refl _ _).drew).mono ?_; rintro e w9 ⟨rfl, k2⟩)
                    all_goals (go_wp2_with fail)
                    all_goals go_ret
                    all_goals (rw [E.out, EU.out]; exact ⟨rfl, RLeft.same HH.out (HO.out.kept.drew.step k2 (by simp))⟩)
                · have hk2 : k = l.length := by omega
                  subst hk2
                  have HML := hid (show M = addsL l by rw [HMM.out, List.take_length])
                  have HE0 := hid (show addsE l = 0 from addsE_none (HN.out.all (Nat.le_refl _)))
                  have HC3 := hid (show startC (absK Y) s.data.toList user.data.toList tenant.data.toList device.data.toList l = if 256 ≤ Y.length then 3 else 0 by rw [HC2.out, if_neg HZ.out, if_neg (by rw [HE0.out]; simp)]; simp [absK])
                  have c3r := (HH.out.keptN ho.kept).c3
                  clear c0 ho
                  by_cases hf : 256 ≤ Y.length
                  · have E := hid (show startC (absK Y) s.data.toList user.data.toList tenant.data.toList device.data.toList l = 3 by rw [HC3.out, if_pos hf])
                    rw [E.out] at EU
                    have hf2 : (256 : Int) ≤ Y.length := by omega
                    go_wp2_with fail
                    go_ret
                    rw [E.out, EU.out]
                    exact ⟨rfl, RLeft.same HH.out HO.out.kept⟩
                  · have E := hid (show startC (absK Y) s.data.toList user.data.toList tenant.data.toList device.data.toList l = 0 by rw [HC3.out, if_neg hf])
                    rw [E.out, if_pos rfl] at EU
                    have hf2 : (Y.length : Int) < 256 := by omega
                    have HF9 := hid (show Y.length < 256 by omega)
                    clear hf
                    obtain ⟨v0, v1, v2, v3, v4, v5, v6, v7, v8, _⟩ := nine_cells HB9.out
                    have HUN := hid (runtil_any (HH.out.keptN HO.out.kept).c1 (HH.out.keptN HO.out.kept).c2 s user tenant device (lim now) (lim now) 0 a1 none M.length c1 0 0)
                    go_wp2_with fail
                    refine HUN.out.mono ?_
                    rintro e w4 ⟨rfl, k4⟩
                    clear v0 v1 v2 v3 v4 v5 v6 v7 v8 c3r
                    have hb4 := k4.at HB9.out (by simp)
                    have g6 := free_at hb4 6
                    have u6 : w4.cell? ⟨b9, 6, none⟩ = some (.int .i64 0) := by rw [cell_at hb4]; rfl
                    have hb5 := heap_setCell_same w4 b9 6 _ _ (.int .i64 (min (addI (lim now) idle) (addI (lim now) abs))) hb4
                    have HK5 := hid ((HO.out.kept.step k4 (by simp)).setCell (p := ⟨b9, 6, none⟩) (.inr (Nat.le_of_eq HBB.out.symm)) (.int .i64 (min (addI (lim now) idle) (addI (lim now) abs))))
                    have HO5 := hid ((HO.out.later k4).beside ((Kept.refl [b9] w4).setCell (p := ⟨b9, 6, none⟩) (.inl (by simp)) (.int .i64 (min (addI (lim now) idle) (addI (lim now) abs)))) (fun i hi => by simp at hi; rw [hi, HBB.out]; exact Nat.le_refl _) (fun i hi hm => by simp at hi; subst hi; exact absurd (HGT.out _ hm) (Nat.lt_irrefl _)))
                    obtain ⟨w5, HW5⟩ : ∃ v, Hid (v = w4.setCell ⟨b9, 6, none⟩ (.int .i64 (min (addI (lim now) idle) (addI (lim now) abs)))) := ⟨_, hid rfl⟩
                    rw [← HW5.out] at hb5 HK5 HO5
                    have HB5 := hid hb5
                    clear hb4 hb5 k4
                    go_wp2_with fail
                    rw [← HW5.out]
                    clear u6 g6
                    obtain ⟨v0, v1, v2, v3, v4, v5, v6, v7, v8, _⟩ := nine_cells HB5.out
                    change w5.cell? ⟨b9, 6, none⟩ = some (.int .i64 (min (addI (lim now) idle) (addI (lim now) abs))) at v6
                    obtain ⟨e0, HE9⟩ : ∃ e0 : EP, Hid (e0 = ⟨w.heap.size, a1, c1, none, 0, s.data.toList, newX idle abs user.data.toList tenant.data.toList device.data.toList l now⟩) := ⟨_, hid rfl⟩
                    obtain ⟨N, HN9⟩ : ∃ N, Hid (N = Y ++ [e0]) := ⟨_, hid rfl⟩
                    have HBX := hid (fun (wq : World) => (show ListAt 10 encK (World.drew (wq.alloc (.cells #[.string s, .string user, .string tenant, .string device, .int .i64 (lim now), .int .i64 (lim now), .int .i64 (min (addI (lim now) idle) (addI (lim now) abs)), .slice a1 M.length c1, .slice none 0 0, .bool false] 87 (0, 0)))) (some ⟨wq.heap.size, 0, none⟩) [e0] from list_box encKOk (show (World.drew (wq.alloc _)).heap[wq.heap.size]? = _ from heap_alloc_new wq _) (by rw [HE9.out, HML.out]; simp [rowV, encK, sV, newX]) (by simp [maxLen])))
                    have HKQ := hid (fun wq (k : Kept [] w5 wq) => HK5.out.step k (by simp))
                    have HROW := hid (fun wq (k : Kept [] w5 wq) => ownl_of_row ((HH.out.keptN (HKQ.out wq k)).row))
                    have HQ3 := hid (fun wq (k : Kept [] w5 wq) => (HH.out.keptN (HKQ.out wq k)).c3)
                    have HQ6 := hid (fun wq (k : Kept [] w5 wq) w6 (k6 : Kept (fp a) wq w6) => k6.at (HH.out.keptN (HKQ.out wq k)).blk HH.out.g_ne)
                    have HQC := hid (fun wq (k : Kept [] w5 wq) w6 (k6 : Kept (fp a) wq w6) => (show w6.cell? ⟨qb, 3, none⟩ = some (.slice a Y.length cap) by rw [cell_at (HQ6.out wq k w6 k6)]; rfl))
                    have HQF := hid (fun wq (k : Kept [] w5 wq) w6 (k6 : Kept (fp a) wq w6) => free_at (HQ6.out wq k w6 k6) 3)
                    have HLN := hid (show Y.length + [e0].length ≤ 1000000 by simp; have := HF9.out; omega)
                    have HPUSH := hid (fun wq (k : Kept [] w5 wq) a6 c6 w6 (k6 : Kept (fp a) wq w6) (hr : w6.ownsRow 0 87 10 (.slice a6 N.length c6) N.length (rowV encK N)) (f6 : ∀ i ∈ fp a6, i ∈ fp a ∨ wq.heap.size ≤ i) => (show RLeft w (w6.setCell ⟨qb, 3, none⟩ (.slice a6 N.length c6)) qb idle abs a Y (absK Y ++ [(s.data.toList, newX idle abs user.data.toList tenant.data.toList device.data.toList l now)]) by
          have hp := HH.out.push (w5 := wq) (e := e0) (HKQ.out wq k) (by rw [HE9.out]; exact ⟨by show LB _ _ _ _ _ (addsL l); rw [← HML.out]; exact LB.of encPOk (HO5.out.later k), list_nil _ _, by simp [fp]⟩) (fun j hj => by rw [HE9.out] at hj; exact hj.elim (fun hj => HO5.out.new j hj) (fun hj => by simp [fp] at hj)) k6 HN9.out hr f6 HF9.out (by rw [HE9.out]; exact Inv.new _ _ _ _ HE0.out HZ.out) (by rw [HE9.out]; exact w1) (by rw [HE9.out]; exact HQ.out)
          rw [HE9.out] at hp
          exact hp))
                    have q0 := HQ3.out _ (Kept.refl [] w5)
                    have q1 := fun (o : Obj) => HQ3.out _ ((Kept.refl [] w5).alloc o)
                    go_region_law ((first
                      | (refine step_appL encKOk Try.underlying80 HN9.out (HROW.out _ ((Kept.refl [] _).alloc _).drew) (HBX.out _) HLN.out rfl _ _ rfl rfl rfl rfl rfl ?_; intro a6 c6 w6 o6 k6 f6; have q6 := HQC.out _ ((Kept.refl [] _).alloc _).drew w6 k6; have z6 := HQF.out _ ((Kept.refl [] _).alloc _).drew w6 k6; have HP6 := hid (HPUSH.out _ ((Kept.refl [] _).alloc _).drew a6 c6 w6 k6 o6.row f6))))
                    all_goals (go_wp2_with fail)
                    all_goals go_ret
                    all_goals (rw [E.out, EU.out]; exact ⟨rfl, HP6.out⟩)
          · rw [hx] at HF
            have E := hid (show startC (absK Y) s.data.toList user.data.toList tenant.data.toList device.data.toList l = 7 by rw [HC.out, hq]; rfl)
            rw [E.out] at EU
            rw [E.out, EU.out]
            have hi0 : (0 : Int) ≤ i := by omega
            clear h hl hq HC hx hk
            go_enter Try.func42, Try.ntmps42
            go_wp2_with (first | (go_at_call 49; refine (rmade_any c0).mono ?_; rintro e w' ⟨rfl, rfl⟩) | (go_at_call 40; refine (rlimited_any _ _).mono ?_; rintro e w' ⟨rfl, rfl⟩))
            refine H1.out.mono ?_
            rintro e w' ⟨rfl, rfl⟩
            go_wp2_with fail
            refine H2.out.mono ?_
            rintro e w' ⟨rfl, rfl⟩
            go_wp2_with fail
            refine H3.out.mono ?_
            rintro e w' ⟨rfl, rfl⟩
            go_wp2_with fail
            refine HF.out.mono ?_
            rintro e w' ⟨rfl, rfl⟩
            go_wp2_with fail
            go_ret
            exact ⟨rfl, RLeft.same HH.out (Kept.refl _ _)⟩
        · have hdb2 : (device.toList == ([] : List UInt8)) = false := by rw [ByteArray.toList_eq]; simpa using hde
          cases w4 : wordB device.data.toList
          · rw [w4] at H4
            have HDE := hid (show devB device.data.toList = false by unfold devB; rw [w4]; simpa using hde)
            clear hde
            have E := hid (show startC (absK Y) s.data.toList user.data.toList tenant.data.toList device.data.toList l = 5 from start_noword (by rw [w1, w2, w3, HDE.out]; simp))
            rw [E.out] at EU
            rw [E.out, EU.out]
            clear h hl
            go_enter Try.func42, Try.ntmps42
            go_wp2_with (first | (go_at_call 49; refine (rmade_any c0).mono ?_; rintro e w' ⟨rfl, rfl⟩) | (go_at_call 40; refine (rlimited_any _ _).mono ?_; rintro e w' ⟨rfl, rfl⟩))
            refine H1.out.mono ?_
            rintro e w' ⟨rfl, rfl⟩
            go_wp2_with fail
            refine H2.out.mono ?_
            rintro e w' ⟨rfl, rfl⟩
            go_wp2_with fail
            refine H3.out.mono ?_
            rintro e w' ⟨rfl, rfl⟩
            go_wp2_with fail
            refine H4.out.mono ?_
            rintro e w' ⟨rfl, rfl⟩
            go_wp2_with fail
            go_ret
            exact ⟨rfl, RLeft.same HH.out (Kept.refl _ _)⟩
          · rw [w4] at H4
            have HDE := hid (show devB device.data.toList = true by unfold devB; rw [w4]; simp)
            clear hde
            have HWW := hid (show (wordB s.data.toList && wordB user.data.toList && wordB tenant.data.toList && devB device.data.toList) = true by rw [w1, w2, w3]; exact HDE.out)
            have HC := hid (start_word (U := absK Y) (l := l) HWW.out)
            rcases look_idx (Y := Y) (k := s.data.toList) with ⟨hx, hq⟩ | ⟨i, hi, hx, hk, hq⟩
            · rw [hx] at HF
              have HC2 := hid (show startC (absK Y) s.data.toList user.data.toList tenant.data.toList device.data.toList l = if l.length = 0 then 21 else if addsE l ≠ 0 then addsE l else if 256 ≤ (absK Y).length then 3 else 0 by rw [HC.out, hq]; rfl)
              have HQ := hid hq
              clear h hl hq HC hx
              by_cases hz : l.length = 0
              · have E := hid (show startC (absK Y) s.data.toList user.data.toList tenant.data.toList device.data.toList l = 21 by rw [HC2.out, if_pos hz])
                rw [E.out] at EU
                rw [E.out, EU.out]
                have hz2 : ((l.length : Int) == 0) = true := by rw [hz]; rfl
                clear HC2
                go_enter Try.func42, Try.ntmps42
                go_wp2_with (first | (go_at_call 49; refine (rmade_any c0).mono ?_; rintro e w' ⟨rfl, rfl⟩) | (go_at_call 40; refine (rlimited_any _ _).mono ?_; rintro e w' ⟨rfl, rfl⟩))
                refine H1.out.mono ?_
                rintro e w' ⟨rfl, rfl⟩
                go_wp2_with fail
                refine H2.out.mono ?_
                rintro e w' ⟨rfl, rfl⟩
                go_wp2_with fail
                refine H3.out.mono ?_
                rintro e w' ⟨rfl, rfl⟩
                go_wp2_with fail
                refine H4.out.mono ?_
                rintro e w' ⟨rfl, rfl⟩
                go_wp2_with fail
                refine HF.out.mono ?_
                rintro e w' ⟨rfl, rfl⟩
                go_wp2_with fail
                go_ret
                exact ⟨rfl, RLeft.same HH.out (Kept.refl _ _)⟩
              · have HZ := hid hz
                have hz2 : ((l.length : Int) == 0) = false := by rw [beq_eq_false_iff_ne]; omega
                clear hz
                have hb2 := heap_alloc_new w (.cells #[.string s, .string user, .string tenant, .string device, .int .i64 (lim now), .int .i64 (lim now), .int .i64 0, .slice none 0 0, .slice none 0 0] 33 (0, 0))
                have hk2 := (Kept.refl [] w).alloc (.cells #[.string s, .string user, .string tenant, .string device, .int .i64 (lim now), .int .i64 (lim now), .int .i64 0, .slice none 0 0, .slice none 0 0] 33 (0, 0))
                obtain ⟨b9, HBB⟩ : ∃ b, Hid (b = w.heap.size) := ⟨_, hid rfl⟩
                obtain ⟨w2, HW2⟩ : ∃ v, Hid (v = w.alloc (.cells #[.string s, .string user, .string tenant, .string device, .int .i64 (lim now), .int .i64 (lim now), .int .i64 0, .slice none 0 0, .slice none 0 0] 33 (0, 0))) := ⟨_, hid rfl⟩
                rw [← HW2.out] at hb2 hk2
                rw [← HBB.out] at hb2
                have HB2 := hid hb2
                have HK2 := hid hk2
                clear hb2 hk2
                go_enter Try.func42, Try.ntmps42
                go_wp2_with (first | (go_at_call 49; refine (rmade_any c0).mono ?_; rintro e w' ⟨rfl, rfl⟩) | (go_at_call 40; refine (rlimited_any _ _).mono ?_; rintro e w' ⟨rfl, rfl⟩))
                refine H1.out.mono ?_
                rintro e w' ⟨rfl, rfl⟩
                go_wp2_with fail
                refine H2.out.mono ?_
                rintro e w' ⟨rfl, rfl⟩
                go_wp2_with fail
                refine H3.out.mono ?_
                rintro e w' ⟨rfl, rfl⟩
                go_wp2_with fail
                refine H4.out.mono ?_
                rintro e w' ⟨rfl, rfl⟩
                go_wp2_with fail
                refine HF.out.mono ?_
                rintro e w' ⟨rfl, rfl⟩
                go_wp2_with fail
                rw [← HW2.out, ← HBB.out]
                go_loopw [16] (fun i wr => ∃ (k : Nat) (M : List Prf) (a1 : Option Addr) (c1 : Nat), k ≤ l.length ∧ i = .int .i64 k ∧ M = addsL (l.take k) ∧ NoneTo badP l k ∧ OwnP w wr a1 c1 M ∧ (∀ j ∈ fp a1, b9 < j) ∧ wr.heap[b9]? = some (.cells #[.string s, .string user, .string tenant, .string device, .int .i64 (lim now), .int .i64 (lim now), .int .i64 0, .slice a1 M.length c1, .slice none 0 0] 33 (0, 0))) (fun i _ => l.length - (intOf i).toNat)
                case atStart => exact ⟨0, [], none, 0, Nat.zero_le _, rfl, rfl, NoneTo.zero _ _, ⟨World.ownsRow_nil _ _ _ _, HK2.out, by simp [fp]⟩, by simp [fp], HB2.out⟩
                case round =>
                  obtain ⟨k, M, a1, c1, hk, rfl, hM, hnn, ho, hgt, hb9⟩ := hrel
                  have hml : M.length ≤ k := by rw [hM]; exact adds_few l k
                  have HMM := hid hM
                  have HN := hid hnn
                  have HO := hid ho
                  have HGT := hid hgt
                  have HB9 := hid hb9
                  clear hM hnn hgt
                  by_cases hlt : k < l.length
                  · obtain ⟨b, off, rfl, hb, hc0, hc1⟩ := PrfsAt.get (HL.out.keptN ho.kept) hlt
                    have hb1 : (0 : Int) ≤ k := by omega
                    have hb2 : (k : Int) < l.length := by omega
                    have HLT := hid hlt
                    have HSN := hid (addsL_snoc l k hlt)
                    have HYES := hid (fun e => HN.out.next hlt e)
                    have HAT := hid (fun e => addsE_at HN.out hlt e)
                    have HBP := hid (show badP l[k] = (addE l[k] != 0) from rfl)
                    clear ho
                    generalize l[k] = p at *
                    have s7 : wr.cell? ⟨b9, 7, none⟩ = some (.slice a1 M.length c1) := by rw [cell_at hb9]; rfl
                    have HAD := hid (fun wq (kq : Kept [] wr wq) => rpadd_any (cap := c1) ((HO.out.seq encPOk).keptN kq) (by omega) p)
                    clear hb9
                    have HBL := hid (HBB.out)
                    by_cases he : addE p = 0
                    · have HAD1 := hid (fun wq kq => (HAD.out wq kq).mono fun _ _ h => h.ok he)
                      have HY2 := hid (HYES.out (by rw [HBP.out, he]; rfl))
                      have HKA := hid (show addL M p = addsL (l.take (k + 1)) by rw [HSN.out, HMM.out])
                      obtain ⟨M2, HM2⟩ : ∃ M2, Hid (addL M p = M2) := ⟨_, hid rfl⟩
                      rw [HM2.out] at HAD1 HKA
                      clear he
                      go_wp2_with fail
                      go_region_with (go_at_call 64; refine (HAD1.out _ (Kept.refl _ _).drew).mono ?_; rintro e w9 ⟨a2, c2, rfl, o2⟩)
                      all_goals (
                        have hb3 := o2.kept.at ((Kept.refl [] wr).drew.at HB9.out (by simp)) (by simp)
                        have u7 : w9.cell? ⟨b9, 7, none⟩ = some (.slice a1 M.length c1) := by rw [cell_at hb3]; rfl
                        have g7 := free_at hb3 7
                        have hb4 := heap_setCell_same w9 b9 7 _ _ (.slice a2 M2.length c2) hb3
                        have hbl := lt_of_heap HB9.out
                        have HG2 := hid (fun j (hj : j ∈ fp a2) => (show b9 < j from Nat.lt_of_lt_of_le hbl (o2.new j hj)))
                        have HO4 := hid ((o2.rebase HO.out.kept.drew).beside ((Kept.refl [b9] w9).setCell (p := ⟨b9, 7, none⟩) (.inl (by simp)) (.slice a2 M2.length c2)) (fun i hi => by simp at hi; rw [hi, HBB.out]; exact Nat.le_refl _) (fun i hi hm => by simp at hi; subst hi; exact absurd (HG2.out _ hm) (Nat.lt_irrefl _)))
                        obtain ⟨w5, HW5⟩ : ∃ v, Hid (v = w9.setCell ⟨b9, 7, none⟩ (.slice a2 M2.length c2)) := ⟨_, hid rfl⟩
                        rw [← HW5.out] at hb4 HO4
                        have HB4 := hid hb4
                        clear hb3 hb4 hbl
                        go_wp2_with fail
                        rw [← HW5.out]
                        go_roundw
                        case rel => exact ⟨k + 1, M2, a2, c2, by have := HLT.out; omega, by go_num, HKA.out, HY2.out, HO4.out, HG2.out, HB4.out⟩
                        case measure => simp [intOf]; omega)
                    · have HAD1 := hid (fun wq kq => (HAD.out wq kq).mono fun _ _ h => h.err he)
                      have HE := hid (HAT.out (by rw [HBP.out]; simpa using he))
                      have E := hid (show startC (absK Y) s.data.toList user.data.toList tenant.data.toList device.data.toList l = addE p by rw [HC2.out, if_neg HZ.out, if_pos (by rw [HE.out.1]; exact he), HE.out.1])
                      rw [E.out, if_neg he] at EU
                      have hne : (addE p != 0) = true := by simpa using he
                      generalize addE p = c at *
                      clear he
                      go_wp2_with fail
                      go_region_with (go_at_call 64; refine (HAD1.out _ (Kept.refl _ _).drew).mono ?_; rintro e w9 ⟨rfl, k2⟩)
                      all_goals (go_wp2_with fail)
                      all_goals go_ret
                      all_goals (rw [E.out, EU.out]; exact ⟨rfl, RLeft.same HH.out (HO.out.kept.drew.step k2 (by simp))⟩)
                  · have hk2 : k = l.length := by omega
                    subst hk2
                    have HML := hid (show M = addsL l by rw [HMM.out, List.take_length])
                    have HE0 := hid (show addsE l = 0 from addsE_none (HN.out.all (Nat.le_refl _)))
                    have HC3 := hid (show startC (absK Y) s.data.toList user.data.toList tenant.data.toList device.data.toList l = if 256 ≤ Y.length then 3 else 0 by rw [HC2.out, if_neg HZ.out, if_neg (by rw [HE0.out]; simp)]; simp [absK])
                    have c3r := (HH.out.keptN ho.kept).c3
                    clear c0 ho
                    by_cases hf : 256 ≤ Y.length
                    · have E := hid (show startC (absK Y) s.data.toList user.data.toList tenant.data.toList device.data.toList l = 3 by rw [HC3.out, if_pos hf])
                      rw [E.out] at EU
                      have hf2 : (256 : Int) ≤ Y.length := by omega
                      go_wp2_with fail
                      go_ret
                      rw [E.out, EU.out]
                      exact ⟨rfl, RLeft.same HH.out HO.out.kept⟩
                    · have E := hid (show startC (absK Y) s.data.toList user.data.toList tenant.data.toList device.data.toList l = 0 by rw [HC3.out, if_neg hf])
                      rw [E.out, if_pos rfl] at EU
                      have hf2 : (Y.length : Int) < 256 := by omega
                      have HF9 := hid (show Y.length < 256 by omega)
                      clear hf
                      obtain ⟨v0, v1, v2, v3, v4, v5, v6, v7, v8, _⟩ := nine_cells HB9.out
                      have HUN := hid (runtil_any (HH.out.keptN HO.out.kept).c1 (HH.out.keptN HO.out.kept).c2 s user tenant device (lim now) (lim now) 0 a1 none M.length c1 0 0)
                      go_wp2_with fail
                      refine HUN.out.mono ?_
                      rintro e w4 ⟨rfl, k4⟩
                      clear v0 v1 v2 v3 v4 v5 v6 v7 v8 c3r
                      have hb4 := k4.at HB9.out (by simp)
                      have g6 := free_at hb4 6
                      have u6 : w4.cell? ⟨b9, 6, none⟩ = some (.int .i64 0) := by rw [cell_at hb4]; rfl
                      have hb5 := heap_setCell_same w4 b9 6 _ _ (.int .i64 (min (addI (lim now) idle) (addI (lim now) abs))) hb4
                      have HK5 := hid ((HO.out.kept.step k4 (by simp)).setCell (p := ⟨b9, 6, none⟩) (.inr (Nat.le_of_eq HBB.out.symm)) (.int .i64 (min (addI (lim now) idle) (addI (lim now) abs))))
                      have HO5 := hid ((HO.out.later k4).beside ((Kept.refl [b9] w4).setCell (p := ⟨b9, 6, none⟩) (.inl (by simp)) (.int .i64 (min (addI (lim now) idle) (addI (lim now) abs)))) (fun i hi => by simp at hi; rw [hi, HBB.out]; exact Nat.le_refl _) (fun i hi hm => by simp at hi; subst hi; exact absurd (HGT.out _ hm) (Nat.lt_irrefl _)))
                      obtain ⟨w5, HW5⟩ : ∃ v, Hid (v = w4.setCell ⟨b9, 6, none⟩ (.int .i64 (min (addI (lim now) idle) (addI (lim now) abs)))) := ⟨_, hid rfl⟩
                      rw [← HW5.out] at hb5 HK5 HO5
                      have HB5 := hid hb5
                      clear hb4 hb5 k4
                      go_wp2_with fail
                      rw [← HW5.out]
                      clear u6 g6
                      obtain ⟨v0, v1, v2, v3, v4, v5, v6, v7, v8, _⟩ := nine_cells HB5.out
                      change w5.cell? ⟨b9, 6, none⟩ = some (.int .i64 (min (addI (lim now) idle) (addI (lim now) abs))) at v6
                      obtain ⟨e0, HE9⟩ : ∃ e0 : EP, Hid (e0 = ⟨w.heap.size, a1, c1, none, 0, s.data.toList, newX idle abs user.data.toList tenant.data.toList device.data.toList l now⟩) := ⟨_, hid rfl⟩
                      obtain ⟨N, HN9⟩ : ∃ N, Hid (N = Y ++ [e0]) := ⟨_, hid rfl⟩
                      have HBX := hid (fun (wq : World) => (show ListAt 10 encK (World.drew (wq.alloc (.cells #[.string s, .string user, .string tenant, .string device, .int .i64 (lim now), .int .i64 (lim now), .int .i64 (min (addI (lim now) idle) (addI (lim now) abs)), .slice a1 M.length c1, .slice none 0 0, .bool false] 87 (0, 0)))) (some ⟨wq.heap.size, 0, none⟩) [e0] from list_box encKOk (show (World.drew (wq.alloc _)).heap[wq.heap.size]? = _ from heap_alloc_new wq _) (by rw [HE9.out, HML.out]; simp [rowV, encK, sV, newX]) (by simp [maxLen])))
                      have HKQ := hid (fun wq (k : Kept [] w5 wq) => HK5.out.step k (by simp))
                      have HROW := hid (fun wq (k : Kept [] w5 wq) => ownl_of_row ((HH.out.keptN (HKQ.out wq k)).row))
                      have HQ3 := hid (fun wq (k : Kept [] w5 wq) => (HH.out.keptN (HKQ.out wq k)).c3)
                      have HQ6 := hid (fun wq (k : Kept [] w5 wq) w6 (k6 : Kept (fp a) wq w6) => k6.at (HH.out.keptN (HKQ.out wq k)).blk HH.out.g_ne)
                      have HQC := hid (fun wq (k : Kept [] w5 wq) w6 (k6 : Kept (fp a) wq w6) => (show w6.cell? ⟨qb, 3, none⟩ = some (.slice a Y.length cap) by rw [cell_at (HQ6.out wq k w6 k6)]; rfl))
                      have HQF := hid (fun wq (k : Kept [] w5 wq) w6 (k6 : Kept (fp a) wq w6) => free_at (HQ6.out wq k w6 k6) 3)
                      have HLN := hid (show Y.length + [e0].length ≤ 1000000 by simp; have := HF9.out; omega)
                      have HPUSH := hid (fun wq (k : Kept [] w5 wq) a6 c6 w6 (k6 : Kept (fp a) wq w6) (hr : w6.ownsRow 0 87 10 (.slice a6 N.length c6) N.length (rowV encK N)) (f6 : ∀ i ∈ fp a6, i ∈ fp a ∨ wq.heap.size ≤ i) => (show RLeft w (w6.setCell ⟨qb, 3, none⟩ (.slice a6 N.length c6)) qb idle abs a Y (absK Y ++ [(s.data.toList, newX idle abs user.data.toList tenant.data.toList device.data.toList l now)]) by
          have hp := HH.out.push (w5 := wq) (e := e0) (HKQ.out wq k) (by rw [HE9.out]; exact ⟨by show LB _ _ _ _ _ (addsL l); rw [← HML.out]; exact LB.of encPOk (HO5.out.later k), list_nil _ _, by simp [fp]⟩) (fun j hj => by rw [HE9.out] at hj; exact hj.elim (fun hj => HO5.out.new j hj) (fun hj => by simp [fp] at hj)) k6 HN9.out hr f6 HF9.out (by rw [HE9.out]; exact Inv.new _ _ _ _ HE0.out HZ.out) (by rw [HE9.out]; exact w1) (by rw [HE9.out]; exact HQ.out)
          rw [HE9.out] at hp
          exact hp))
                      have q0 := HQ3.out _ (Kept.refl [] w5)
                      have q1 := fun (o : Obj) => HQ3.out _ ((Kept.refl [] w5).alloc o)
                      go_region_law ((first
                        | (refine step_appL encKOk Try.underlying80 HN9.out (HROW.out _ ((Kept.refl [] _).alloc _).drew) (HBX.out _) HLN.out rfl _ _ rfl rfl rfl rfl rfl ?_; intro a6 c6 w6 o6 k6 f6; have q6 := HQC.out _ ((Kept.refl [] _).alloc _).drew w6 k6; have z6 := HQF.out _ ((Kept.refl [] _).alloc _).drew w6 k6; have HP6 := hid (HPUSH.out _ ((Kept.refl [] _).alloc _).drew a6 c6 w6 k6 o6.row f6))))
                      all_goals (go_wp2_with fail)
                      all_goals go_ret
                      all_goals (rw [E.out, EU.out]; exact ⟨rfl, HP6.out⟩)
            · rw [hx] at HF
              have E := hid (show startC (absK Y) s.data.toList user.data.toList tenant.data.toList device.data.toList l = 7 by rw [HC.out, hq]; rfl)
              rw [E.out] at EU
              rw [E.out, EU.out]
              have hi0 : (0 : Int) ≤ i := by omega
              clear h hl hq HC hx hk
              go_enter Try.func42, Try.ntmps42
              go_wp2_with (first | (go_at_call 49; refine (rmade_any c0).mono ?_; rintro e w' ⟨rfl, rfl⟩) | (go_at_call 40; refine (rlimited_any _ _).mono ?_; rintro e w' ⟨rfl, rfl⟩))
              refine H1.out.mono ?_
              rintro e w' ⟨rfl, rfl⟩
              go_wp2_with fail
              refine H2.out.mono ?_
              rintro e w' ⟨rfl, rfl⟩
              go_wp2_with fail
              refine H3.out.mono ?_
              rintro e w' ⟨rfl, rfl⟩
              go_wp2_with fail
              refine H4.out.mono ?_
              rintro e w' ⟨rfl, rfl⟩
              go_wp2_with fail
              refine HF.out.mono ?_
              rintro e w' ⟨rfl, rfl⟩
              go_wp2_with fail
              go_ret
              exact ⟨rfl, RLeft.same HH.out (Kept.refl _ _)⟩
end Go.Proofs.Ytakccoiecmibcaa

/- Reject and Take of the reference. Printed by gen_ref3.py. -/
import Derived.Test.YtionejokdfgmhaaRef2
import Derived.Laws.OwnMore
namespace Go.Proofs.Ytionejokdfgmhaa
open Go.RowKit Go.Maps

theorem rpend {Y : List Ent} {k : Str} {now : Int} (hz : pendC (absR Y) k now = 0) : ∃ i, ∃ hi : i < Y.length, ropenI Y k now = i ∧ Y[i].1 = k ∧ alook (absR Y) k = some Y[i].2.x ∧ stS Y[i].2.x (lim now) = sPending := by
  rcases look_idx (Y := Y) (k := k) with ⟨e, hn⟩ | ⟨i, hi, e, hk, hl⟩
  · unfold pendC at hz; rw [hn] at hz; cases hz
  · exact ⟨i, hi, by unfold ropenI; rw [if_pos hz, e], hk, hl, (pend_of hl).1 hz⟩
theorem RLeft.keptN {w w' w2 : World} {qb : Nat} {a : Option Addr} {Y : List Ent} {U' : Wfs} (h : RLeft w w' qb a Y U') (k : Kept [] w' w2) : RLeft w w2 qb a Y U' := by
  obtain ⟨a', cap', Y', h1, e, k1, hd⟩ := h
  exact ⟨a', cap', Y', h1.keptN k, e, k1.step k (by simp), hd⟩
/-- One cell of an entry is written. -/
theorem RefAt.set1 {w w1 : World} {qb g : Nat} {cap : Nat} {Y : List Ent} (h : RefAt w qb (some ⟨g, 0, none⟩) cap Y) {i : Nat} (hi : i < Y.length) (k1 : Kept [] w w1) (c : Nat) (hc : c < 11) (v : Value) (x' : Proc) (hst : x'.steps = Y[i].2.x.steps) (hap : x'.appr = Y[i].2.x.appr) (he : encR (Y[i].1, { Y[i].2 with x := x' }) = (encR Y[i]).set c v) (hinv : Inv x') {f : Proc → Proc} (hf : x' = f Y[i].2.x) :
    RLeft w (w1.setCell ⟨g, i * 11 + c, none⟩ v) qb (some ⟨g, 0, none⟩) Y (updU (absR Y) Y[i].1 f) := by
  have h1 := h.keptN k1
  have hr := (h1.row.stored (i * 11 + c) v).1
  rw [rowV_set_cell Y i hi _ c hc v he] at hr
  refine h.upd hi (e' := (Y[i].1, { Y[i].2 with x := x' })) k1 (((Kept.refl (fp (some (⟨g, 0, none⟩ : Addr))) w1)).setCell (.inl (by simp [fp])) v) hr rfl ?_ (fun j hj => .inl hj) hinv hf
  have hE := h1.each _ (List.getElem_mem hi)
  exact ⟨by show LB _ _ _ _ _ x'.steps; rw [hst]; exact hE.1, by show LB _ _ _ _ _ x'.appr; rw [hap]; exact hE.2⟩

set_option maxHeartbeats 8000000 in
set_option maxRecDepth 100000 in
theorem rreject_any {w : World} {qb : Nat} {a : Option Addr} {cap : Nat} {Y : List Ent} (h : RefAt w qb a cap Y) (s by_ : ByteArray) {ga : Option Addr} {gc : Nat} {gl : List Str} (hgl : StrsAt w ga gl) (now : Int) :
    Calls Try.prog 31 #[.pointer (some ⟨qb, 0, none⟩), .string s, .string by_, .slice ga gl.length gc, .int .i64 now] w fun e w' => e = .returned (.int .i64 (rejC (absR Y) s.data.toList gl now)) ∧ RLeft w w' qb a Y (rejU (absR Y) s.data.toList gl now) := by
  have HP := hid (ropen_any h s now)
  by_cases hz : pendC (absR Y) s.data.toList now = 0
  · obtain ⟨i, hi, e, hk, hl, hst⟩ := rpend hz
    rw [hz, e] at HP
    have E := hid (show rejC (absR Y) s.data.toList gl now = if hasS gl (grpS Y[i].2.x) then 0 else 11 by unfold rejC; rw [if_pos hz, hl])
    have E2 := hid (show rejU (absR Y) s.data.toList gl now = if rejC (absR Y) s.data.toList gl now = 0 then updU (absR Y) s.data.toList rejX else absR Y from rfl)
    obtain ⟨g, cur, rfl, hg, hcs, hnc, hc⟩ := h.get hi
    have hfew := h.few
    have hi1 : (0 : Int) ≤ i := by omega
    have hi2 : (i : Int) < Y.length := by omega
    have hinv := h.inv _ (List.getElem_mem hi)
    have hlt := pend_step hst hinv
    have HINV := hid hinv
    have HCL := hid (h.cells hc)
    have HSTP := hid (h.each _ (List.getElem_mem hi)).1.1
    have hlt8 := hinv.len8
    have HG := hid (show grpS Y[i].2.x = Y[i].2.x.steps[Y[i].2.x.step].1 by unfold grpS; rw [List.getElem?_eq_getElem hlt]; rfl)
    have HWI := hid (fun w1 (kq : Kept [] w w1) n => Calls.quiet_of_same (n := n) (w := w1) ((within_any (cap := gc) (hgl.keptN (kq.drewN n)) ⟨(grpS Y[i].2.x).toArray⟩).mono fun _ _ h => ⟨h.1, h.2.symm⟩))
    have hc2 : hasS gl (⟨(grpS Y[i].2.x).toArray⟩ : ByteArray).data.toList = hasS gl (grpS Y[i].2.x) := rfl
    have HFR := hid (fun w1 (kq : Kept [] w w1) => free_at (kq.at hg (by simp)) (i * 11 + 9))
    have HK := hid hk
    have HLT := hid hlt
    have HH := hid h
    obtain ⟨gr, hgr⟩ : ∃ gr, grpS Y[i].2.x = gr := ⟨_, rfl⟩
    rw [hgr] at HWI hc2 E HG
    have HSET := hid (fun w1 (kq : Kept [] w w1) => h.set1 hi kq 9 (by omega) (.bool true) (rejX Y[i].2.x) rfl rfl rfl (by obtain ⟨a1, a2, a3, a4, a5, a6, a7⟩ := hinv; exact ⟨a1, a2, a3, a4, a5, a6, a7⟩) (f := rejX) rfl)
    rw [hk] at HSET
    cases hb : hasS gl gr
    · rw [hc2, hb] at HWI
      have E3 := hid (show rejC (absR Y) s.data.toList gl now = 11 by rw [E.out, hb]; rfl)
      have E4 := hid (show rejU (absR Y) s.data.toList gl now = absR Y by rw [E2.out, E3.out]; rfl)
      rw [E4.out, E3.out]
      clear h hl hst hz hb hc2 E E2 hk hinv hg hc e hgr
      go_enter Try.func31, Try.ntmps31
      go_wp2_with fail
      refine HP.out.mono ?_
      rintro e w1 ⟨rfl, k1⟩
      have K1 := hid k1
      obtain ⟨c0, d0, d1, d2, d3, d4, d5, d6, d7, d8, d9, d10⟩ := HCL.out w1 K1.out
      obtain ⟨b4, off4, e4, hb4, hs0, hs1⟩ := StpsAt.get (HSTP.out.keptN K1.out) HLT.out
      rw [e4] at d4
      unfold sV at hs0
      rw [← HG.out] at hs0
      have f9 := HFR.out w1 K1.out
      have HW1 := hid (HWI.out w1 K1.out)
      have hs2 : (0 : Int) ≤ Y[i].2.x.step := by omega
      have hs3 : (Y[i].2.x.step : Int) < Y[i].2.x.steps.length := by omega
      clear k1 d0 d1 d2 d3 d5 d7 d8 d10 hs1 hb4
      go_wp2_with fail
      go_quiet ((go_at_call 52; with_reducible exact HW1.out _))
      go_wp2_with fail
      go_ret
      exact ⟨rfl, RLeft.same HH.out (K1.out.drewN _)⟩
    · rw [hc2, hb] at HWI
      have E3 := hid (show rejC (absR Y) s.data.toList gl now = 0 by rw [E.out, hb]; rfl)
      have E4 := hid (show rejU (absR Y) s.data.toList gl now = updU (absR Y) s.data.toList rejX by rw [E2.out, E3.out]; rfl)
      rw [E4.out, E3.out]
      clear h hl hst hz hb hc2 E E2 hk hinv hg hc e hgr
      go_enter Try.func31, Try.ntmps31
      go_wp2_with fail
      refine HP.out.mono ?_
      rintro e w1 ⟨rfl, k1⟩
      have K1 := hid k1
      obtain ⟨c0, d0, d1, d2, d3, d4, d5, d6, d7, d8, d9, d10⟩ := HCL.out w1 K1.out
      obtain ⟨b4, off4, e4, hb4, hs0, hs1⟩ := StpsAt.get (HSTP.out.keptN K1.out) HLT.out
      rw [e4] at d4
      unfold sV at hs0
      rw [← HG.out] at hs0
      have f9 := HFR.out w1 K1.out
      have HW1 := hid (HWI.out w1 K1.out)
      have hs2 : (0 : Int) ≤ Y[i].2.x.step := by omega
      have hs3 : (Y[i].2.x.step : Int) < Y[i].2.x.steps.length := by omega
      clear k1 d0 d1 d2 d3 d5 d7 d8 d10 hs1 hb4
      go_wp2_with fail
      go_quiet ((go_at_call 52; with_reducible exact HW1.out _))
      go_wp2_with fail
      go_ret
      exact ⟨rfl, HSET.out _ (K1.out.drewN _)⟩
  · have E := hid (show rejC (absR Y) s.data.toList gl now = pendC (absR Y) s.data.toList now by unfold rejC; rw [if_neg hz])
    have E2 := hid (show rejU (absR Y) s.data.toList gl now = absR Y by unfold rejU; rw [E.out, if_neg hz])
    have HH := hid h
    rw [E2.out, E.out]
    have hne : (pendC (absR Y) s.data.toList now != 0) = true := by simpa using hz
    generalize pendC (absR Y) s.data.toList now = c at *
    clear h hz
    go_enter Try.func31, Try.ntmps31
    go_wp2_with fail
    refine HP.out.mono ?_
    rintro e w1 ⟨rfl, k1⟩
    have K1 := hid k1
    clear k1
    go_wp2_with fail
    go_ret
    exact ⟨rfl, RLeft.same HH.out K1.out⟩

set_option maxHeartbeats 8000000 in
set_option maxRecDepth 100000 in
theorem rtake_any {w : World} {qb : Nat} {a : Option Addr} {cap : Nat} {Y : List Ent} (h : RefAt w qb a cap Y) (s : ByteArray) (now : Int) :
    Calls Try.prog 32 #[.pointer (some ⟨qb, 0, none⟩), .string s, .int .i64 now] w fun e w' => e = .returned (.tuple #[.string ⟨(takeR (absR Y) s.data.toList now).1.toArray⟩, .string ⟨(takeR (absR Y) s.data.toList now).2.1.toArray⟩, .int .i64 (takeR (absR Y) s.data.toList now).2.2]) ∧ RLeft w w' qb a Y (takeU (absR Y) s.data.toList now) := by
  have HF := hid (find_any h s)
  have c0 := h.c0
  have hfew := h.few
  rcases look_idx (Y := Y) (k := s.data.toList) with ⟨e, hn⟩ | ⟨i, hi, e, hk, hl⟩
  · rw [e] at HF
    have E := hid (show takeR (absR Y) s.data.toList now = ([], [], 6) by unfold takeR; rw [hn])
    have E2 := hid (show takeU (absR Y) s.data.toList now = absR Y by unfold takeU; rw [E.out]; rfl)
    rw [E.out, E2.out]
    have HH := hid h
    clear e hn h
    go_enter Try.func32, Try.ntmps32
    go_wp2_with fail
    refine HF.out.mono ?_
    rintro e w' ⟨rfl, rfl⟩
    go_wp2_with fail
    go_ret3
    exact ⟨rfl, RLeft.same HH.out (Kept.refl _ _)⟩
  · rw [e] at HF
    have E := hid (take_at (now := now) hl)
    have E2 := hid (show takeU (absR Y) s.data.toList now = if (takeR (absR Y) s.data.toList now).2.2 = 0 then updU (absR Y) s.data.toList takX else absR Y from rfl)
    obtain ⟨g, cur, rfl, hg, hcs, hnc, hc⟩ := h.get hi
    have hi1 : (0 : Int) ≤ i := by omega
    have hi2 : (i : Int) < Y.length := by omega
    have hinv := h.inv _ (List.getElem_mem hi)
    have HCL := hid (h.cells hc)
    have HW := hid (rword_st w Y[i] now)
    have HFR := hid (fun w1 (kq : Kept [] w w1) => free_at (kq.at hg (by simp)) (i * 11 + 10))
    have HH := hid h
    have HSET := hid (fun w1 (kq : Kept [] w w1) => h.set1 hi kq 10 (by omega) (.bool true) (takX Y[i].2.x) rfl rfl rfl (by obtain ⟨a1, a2, a3, a4, a5, a6, a7⟩ := hinv; exact ⟨a1, a2, a3, a4, a5, a6, a7⟩) (f := takX) rfl)
    rw [hk] at HSET
    have htk : ∃ b, Y[i].2.x.tak = b := ⟨_, rfl⟩
    obtain ⟨tk, htk⟩ := htk
    obtain ⟨d0, d1, d2, d3, d4, d5, d6, d7, d8, d9, d10⟩ := hc
    rw [htk] at E HW HCL d10
    generalize stS Y[i].2.x (lim now) = R at *
    clear h hl hk hinv e hg
    by_cases h1 : R = sPending
    · skip
      have E3 := hid (show takeR (absR Y) s.data.toList now = ([], [], 23) by rw [E.out, if_pos h1])
      have E4 := hid (show takeU (absR Y) s.data.toList now = absR Y by rw [E2.out, E3.out]; rfl)
      rw [E4.out, E3.out]
      have e1 : (R == sPending) = true := by rw [h1]; exact beq_self_eq_true _
      unfold sPending at e1
      clear h1
      go_enter Try.func32, Try.ntmps32
      go_wp2_with fail
      refine HF.out.mono ?_
      rintro e w' ⟨rfl, rfl⟩
      go_wp2_with fail
      refine HW.out.mono ?_
      rintro e w1 ⟨rfl, k1⟩
      have K1 := hid k1
      clear k1
      go_wp2_with fail
      go_ret3
      exact ⟨rfl, RLeft.same HH.out K1.out⟩
    · have e1 := sV_ne h1
      unfold sPending at e1
      by_cases h2 : R = sExpired
      · skip
        have E3 := hid (show takeR (absR Y) s.data.toList now = ([], [], 13) by rw [E.out, if_neg h1, if_pos h2])
        have E4 := hid (show takeU (absR Y) s.data.toList now = absR Y by rw [E2.out, E3.out]; rfl)
        rw [E4.out, E3.out]
        have e2 : (R == sExpired) = true := by rw [h2]; exact beq_self_eq_true _
        unfold sExpired at e2
        clear h1 h2
        go_enter Try.func32, Try.ntmps32
        go_wp2_with fail
        refine HF.out.mono ?_
        rintro e w' ⟨rfl, rfl⟩
        go_wp2_with fail
        refine HW.out.mono ?_
        rintro e w1 ⟨rfl, k1⟩
        have K1 := hid k1
        clear k1
        go_wp2_with fail
        go_ret3
        exact ⟨rfl, RLeft.same HH.out K1.out⟩
      · have e2 := sV_ne h2
        unfold sExpired at e2
        by_cases h3 : R = sRejected
        · skip
          have E3 := hid (show takeR (absR Y) s.data.toList now = ([], [], 11) by rw [E.out, if_neg h1, if_neg h2, if_pos h3])
          have E4 := hid (show takeU (absR Y) s.data.toList now = absR Y by rw [E2.out, E3.out]; rfl)
          rw [E4.out, E3.out]
          have e3 : (R == sRejected) = true := by rw [h3]; exact beq_self_eq_true _
          unfold sRejected at e3
          clear h1 h2 h3
          go_enter Try.func32, Try.ntmps32
          go_wp2_with fail
          refine HF.out.mono ?_
          rintro e w' ⟨rfl, rfl⟩
          go_wp2_with fail
          refine HW.out.mono ?_
          rintro e w1 ⟨rfl, k1⟩
          have K1 := hid k1
          clear k1
          go_wp2_with fail
          go_ret3
          exact ⟨rfl, RLeft.same HH.out K1.out⟩
        · have e3 := sV_ne h3
          unfold sRejected at e3
          cases tk
          · have E3 := hid (show takeR (absR Y) s.data.toList now = (Y[i].2.x.kind, Y[i].2.x.user, 0) by rw [E.out, if_neg h1, if_neg h2, if_neg h3]; rfl)
            have E4 := hid (show takeU (absR Y) s.data.toList now = updU (absR Y) s.data.toList takX by rw [E2.out, E3.out]; rfl)
            rw [E4.out, E3.out]
            clear h1 h2 h3
            go_enter Try.func32, Try.ntmps32
            go_wp2_with fail
            refine HF.out.mono ?_
            rintro e w' ⟨rfl, rfl⟩
            go_wp2_with fail
            refine HW.out.mono ?_
            rintro e w1 ⟨rfl, k1⟩
            have K1 := hid k1
            clear k1
            obtain ⟨c0', d0', d1', d2', d3', d4', d5', d6', d7', d8', d9', d10'⟩ := HCL.out w1 K1.out
            have f10 := HFR.out w1 K1.out
            clear d0' d3' d4' d5' d6' d7' d8' d9'
            go_wp2_with fail
            go_quiet (fail)
            go_wp2_with fail
            go_ret3
            exact ⟨rfl, (HSET.out _ K1.out).keptN ((Kept.refl [] _).drewN _)⟩
          · skip
            have E3 := hid (show takeR (absR Y) s.data.toList now = ([], [], 18) by rw [E.out, if_neg h1, if_neg h2, if_neg h3, if_pos rfl])
            have E4 := hid (show takeU (absR Y) s.data.toList now = absR Y by rw [E2.out, E3.out]; rfl)
            rw [E4.out, E3.out]
            clear h1 h2 h3
            go_enter Try.func32, Try.ntmps32
            go_wp2_with fail
            refine HF.out.mono ?_
            rintro e w' ⟨rfl, rfl⟩
            go_wp2_with fail
            refine HW.out.mono ?_
            rintro e w1 ⟨rfl, k1⟩
            have K1 := hid k1
            clear k1
            obtain ⟨c0', d0', d1', d2', d3', d4', d5', d6', d7', d8', d9', d10'⟩ := HCL.out w1 K1.out
            have f10 := HFR.out w1 K1.out
            clear d0' d3' d4' d5' d6' d7' d8' d9'
            go_wp2_with fail
            go_ret3
            exact ⟨rfl, RLeft.same HH.out K1.out⟩
end Go.Proofs.Ytionejokdfgmhaa

/- Join of the reference. -/
import Derived.Test.YtakccoiecmibcaaRef4
import Derived.Deep.RegionLaw
import Derived.StillTailTactics
namespace Go.Proofs.Ytakccoiecmibcaa
open Go.RowKit Go.Maps

theorem made_at {w0 w w' : World} {n : Nat} (k0 : Kept [] w0 w) (k : Kept [] (w.alloc (.cells #[] 9 (0, 0))) w') (hn : w.heap.size = n) : OwnL 9 1 encS w0 w' (some ⟨n, 0, none⟩) 0 [] := by
  subst hn
  exact ((OwnL.made w).later k).rebase k0
theorem box_kept {S : List Nat} {w w' : World} {x : ByteArray} {t : TypeId} {n : Nat} (k : Kept S (w.alloc (.cells #[.string x] t (0, 0))) w') (hn : w.heap.size = n) (hS : n ∉ S) : StrsAt w' (some ⟨n, 0, none⟩) [x.data.toList] := by
  subst hn
  exact SeqAt.kept (box_str w x t) CEnc.lasts k (fun _ z hz hm => by injection hz with hz; subst hz; exact hS hm)
/-! ### Join -/
theorem rjoin_has {Y : List EP} {k c : Str} {now : Int} {x : Sess} (hz : findC (absK Y) k now = 0) (hl : alook (absK Y) k = some x) : joinC (absK Y) k c now = if wordB c then (if hasS x.clients c then 0 else if 256 ≤ x.clients.length then 3 else 0) else 5 := by
  unfold joinC clientsOf
  rw [if_pos hz, hl]
  rfl
set_option maxHeartbeats 16000000 in
set_option maxRecDepth 100000 in
theorem rjoin_any {w : World} {qb : Nat} {idle abs : Int} {a : Option Addr} {cap : Nat} {Y : List EP} (h : RefAt w qb idle abs a cap Y) (s c : ByteArray) (hcz : c.size ≤ maxLen) (now : Int) :
    Calls Try.prog 45 #[.pointer (some ⟨qb, 0, none⟩), .string s, .string c, .int .i64 now] w fun e w' => e = .returned (.int .i64 (joinC (absK Y) s.data.toList c.data.toList now)) ∧ RLeft w w' qb idle abs a Y (joinU (absK Y) s.data.toList c.data.toList now) := by
  have HF := hid (rlive_any h s now)
  have hfew := h.few
  have HH := hid h
  by_cases hz : findC (absK Y) s.data.toList now = 0
  · obtain ⟨i, hi, hv, hk, hl, hen, hun⟩ := rlive hz
    rw [hz, hv] at HF
    have E0 := hid (rjoin_has (c := c.data.toList) hz hl)
    obtain ⟨g, cur, rfl, hg, hcs, hnc, hc⟩ := h.get hi
    have hi1 : (0 : Int) ≤ i := by omega
    have hi2 : (i : Int) < Y.length := by omega
    have hin : Inv idle abs Y[i].x := h.good.inv (Y[i].id, Y[i].x) (List.mem_map.2 ⟨Y[i], List.getElem_mem hi, rfl⟩)
    have hfc : Y[i].x.clients.length ≤ 256 := hin.few
    have HKL := hid (h.each _ (List.getElem_mem hi))
    have HGC := hid (fun wq (k : Kept [] w wq) => (show EC wq g (i * 10) Y[i] by obtain ⟨g', _, e, _, _, _, hc'⟩ := (HH.out.keptN k).get hi; injection e with e; injection e with e; subst e; exact hc'))
    have HFR := hid (fun wq (k : Kept [] w wq) (j : Nat) => (HH.out.keptN k).free j (by omega))
    have HC3 := hid (fun wq (k : Kept [] w wq) => (HH.out.keptN k).c3)
    have HWD := hid (fun wq => rword_any c wq hcz)
    have HEU := hid (show joinU (absK Y) s.data.toList c.data.toList now = if joinC (absK Y) s.data.toList c.data.toList now = 0 then updU (absK Y) Y[i].id (joinX c.data.toList) else absK Y by unfold joinU; rw [hk])
    have HIJ := hid (fun hc => hin.join (c := c.data.toList) hc)
    have HGQ := hid (show g ≠ qb from fun e => h.g_ne (by rw [e]; simp [fp]))
    have HSET := hid (fun w2 (k2 : Kept [] w w2) a2 c2 (M : List Str) (hM : M = Y[i].x.clients ++ [c.data.toList]) (hJ : joinX c.data.toList Y[i].x = { Y[i].x with clients := Y[i].x.clients ++ [c.data.toList] }) (hI : Inv idle abs (joinX c.data.toList Y[i].x)) (hl : KL w2 { Y[i] with ca := a2, cc := c2, x := { Y[i].x with clients := M } }) (hn : ∀ j ∈ fp a2, w.heap.size ≤ j) => h.set1 hi k2 8 (by omega) (.slice a2 M.length c2) { Y[i] with ca := a2, cc := c2, x := { Y[i].x with clients := M } } rfl rfl hl (fun j hj => hj.elim (fun e => .inl (.inl e)) (fun e => .inr (hn j e))) (f := joinX c.data.toList) (by rw [hM, hJ]) hI)
    have HUP := hid (fun wq (kq : Kept [] w wq) (hJ : joinX c.data.toList Y[i].x = Y[i].x) (hI : Inv idle abs (joinX c.data.toList Y[i].x)) => h.upd hi kq (Kept.refl _ _) (e' := Y[i]) (by rw [List.set_getElem_self]; exact (h.keptN kq).row) rfl ((HKL.out).keptN kq) (fun j hj => .inl hj) (f := joinX c.data.toList) hJ.symm hI)
    clear h hz hv hk hl hen hun hin hc hg
    generalize Y[i] = y at *
    cases hw : wordB c.data.toList
    · have E1 := hid (show joinC (absK Y) s.data.toList c.data.toList now = 5 by rw [E0.out, hw]; rfl)
      rw [E1.out] at HEU
      rw [HEU.out, E1.out, if_neg (by decide)]
      rw [hw] at HWD
      clear hw E0
      go_enter Try.func45, Try.ntmps45
      go_wp2_with fail
      refine HF.out.mono ?_
      rintro e w1 ⟨rfl, hd⟩
      have HD := hid hd.kept
      clear hd
      go_wp2_with (go_at_call 62; refine (HWD.out _).mono ?_; rintro e w2 ⟨rfl, rfl⟩)
      go_ret
      exact ⟨rfl, RLeft.same HH.out HD.out⟩
    · rw [hw] at HWD
      have HHS := hid (fun wq (k : Kept [] w wq) => rhas_any (cap := y.cc) (HKL.out.keptN k).2.1 c)
      cases hb : hasS y.x.clients c.data.toList
      · rw [hb] at HHS
        by_cases hf : 256 ≤ y.x.clients.length
        · have E1 := hid (show joinC (absK Y) s.data.toList c.data.toList now = 3 by rw [E0.out, hw, hb]; simp [hf])
          rw [E1.out] at HEU
          rw [HEU.out, E1.out, if_neg (by decide)]
          clear hw E0 hb
          go_enter Try.func45, Try.ntmps45
          go_wp2_with fail
          refine HF.out.mono ?_
          rintro e w1 ⟨rfl, hd⟩
          have HD := hid hd.kept
          have d8 := (HGC.out _ hd.kept).c8
          have c3 := HC3.out _ hd.kept
          clear hd
          go_wp2_with (first
            | (go_at_call 62; refine (HWD.out _).mono ?_; rintro e w2 ⟨rfl, rfl⟩)
            | (go_at_call 66; refine (HHS.out _ HD.out).mono ?_; rintro e w2 ⟨rfl, rfl⟩))
          go_ret
          exact ⟨rfl, RLeft.same HH.out HD.out⟩
        · have E1 := hid (show joinC (absK Y) s.data.toList c.data.toList now = 0 by rw [E0.out, hw, hb]; simp [hf])
          rw [E1.out, if_pos rfl] at HEU
          rw [HEU.out, E1.out]
          have HJ := hid (show joinX c.data.toList y.x = { y.x with clients := y.x.clients ++ [c.data.toList] } by unfold joinX; rw [if_neg (by rw [show y.x.clients.any (eqC c.data.toList) = false from hb]; simp)])
          have HI2 := hid (HIJ.out (.inr (by omega)))
          have hf2 : (y.x.clients.length : Int) < 256 := by omega
          obtain ⟨M, HM⟩ : ∃ M, Hid (M = y.x.clients ++ [c.data.toList]) := ⟨_, hid rfl⟩
          have HSRC := hid (fun w1 (k1 : Kept [] w w1) wq (kq : Kept [] w1 wq) => (HKL.out.keptN (k1.step kq (by simp))).2.1)
          have HQ := hid (fun w1 (k1 : Kept [] w w1) wq (kq : Kept [] w1 wq) => HC3.out wq (k1.step kq (by simp)))
          have HQS := hid (fun w1 (k1 : Kept [] w w1) wq (kq : Kept [] w1 wq) (v : Value) => (show (wq.setCell ⟨g, i * 10 + 8, none⟩ v).cell? ⟨qb, 3, none⟩ = some (.slice (some ⟨g, 0, none⟩) Y.length cap) by rw [World.cell?_setCell_far _ _ _ _ HGQ.out]; exact HQ.out w1 k1 wq kq))
          have HC8 := hid (fun w1 (k1 : Kept [] w w1) wq (kq : Kept [] w1 wq) => (HGC.out wq (k1.step kq (by simp))).c8)
          have HF8 := hid (fun w1 (k1 : Kept [] w w1) wq (kq : Kept [] w1 wq) => HFR.out wq (k1.step kq (by simp)) (i * 10 + 8))
          clear hw E0 hb
          go_enter Try.func45, Try.ntmps45
          go_wp2_with fail
          refine HF.out.mono ?_
          rintro e w1 ⟨rfl, hd⟩
          have HD := hid hd.kept
          have d8 := (HGC.out _ hd.kept).c8
          have c3 := HC3.out _ hd.kept
          clear hd
          go_wp2_with (first
            | (go_at_call 62; refine (HWD.out _).mono ?_; rintro e w2 ⟨rfl, rfl⟩)
            | (go_at_call 66; refine (HHS.out _ HD.out).mono ?_; rintro e w2 ⟨rfl, rfl⟩))
          clear d8 c3
          have q0 := HQ.out w1 HD.out _ (Kept.refl [] w1)
          have q1 := fun (o : Obj) => HQ.out w1 HD.out _ ((Kept.refl [] w1).alloc o)
          have q2 := fun (o o2 : Obj) => HQ.out w1 HD.out _ (((Kept.refl [] w1).alloc o).alloc o2)
          have HSZ := hid (fun (o : Obj) => (show (w1.alloc o).heap.size = w1.heap.size + 1 by simp))
          have HS1 := hid (show w1.heap.size + 1 ∉ fp (some ⟨w1.heap.size, 0, none⟩) by simp [fp])
          have HS2 := hid (show w1.heap.size ∉ fp (some ⟨w1.heap.size + 1, 0, none⟩) by simp [fp])
          have HLN1 := hid (show 0 + y.x.clients.length ≤ 1000000 by omega)
          have HLN2 := hid (show y.x.clients.length + [c.data.toList].length ≤ 1000000 by simp; omega)
          go_region_law ((first
            | (refine step_appL encSOk Try.underlying31 HM.out (w0 := w1) (o3.later ((Kept.refl [] _).alloc _)) (box_str _ c _) HLN2.out rfl _ _ rfl rfl rfl rfl rfl ?_; intro a4 c4 w4 o4 k4 f4; have K4 := (HB3.out.step o4.kept (by simp)); have q8 := HC8.out w1 HD.out w4 K4; have z8 := HF8.out w1 HD.out w4 K4; have q4 := HQ.out w1 HD.out w4 K4)
            | (refine step_appL encSOk Try.underlying31 HM.out (w0 := w1) o3 (box_kept (Kept.step (Kept.refl _ ((w1.alloc (.cells #[] 9 (0, 0))).alloc (.cells #[.string c] 9 (0, 0)))).drew k3 (fun _ h => h)) (HSZ.out _) HS1.out) HLN2.out rfl _ _ rfl rfl rfl rfl rfl ?_; intro a4 c4 w4 o4 k4 f4; have K4 := (HB3.out.step o4.kept (by simp)); have q8 := HC8.out w1 HD.out w4 K4; have z8 := HF8.out w1 HD.out w4 K4; have q4 := HQ.out w1 HD.out w4 K4)
            | (refine step_appL encSOk Try.underlying31 HM.out (w0 := w1) o3 (box_kept (Kept.step ((Kept.refl _ (w1.alloc (.cells #[.string c] 9 (0, 0)))).alloc (.cells #[] 9 (0, 0))).drew k3 (fun _ h => h)) rfl HS2.out) HLN2.out rfl _ _ rfl rfl rfl rfl rfl ?_; intro a4 c4 w4 o4 k4 f4; have K4 := (HB3.out.step o4.kept (by simp)); have q8 := HC8.out w1 HD.out w4 K4; have z8 := HF8.out w1 HD.out w4 K4; have q4 := HQ.out w1 HD.out w4 K4)
            | (refine step_appL encSOk Try.underlying31 (List.nil_append y.x.clients).symm (w0 := w1) ((OwnL.made w1).later (Kept.refl [] _).drew) (HSRC.out w1 HD.out _ ((Kept.refl [] _).alloc _).drew) HLN1.out rfl _ _ rfl rfl rfl rfl rfl ?_; intro a3 c3 w3 o3 k3 f3; have HB3 := hid (Kept.refl [] w1); have HD3 := hid (HB3.out.step o3.kept (by simp)); have q3 := HQ.out w1 HD.out w3 HD3.out; have q3' := fun (o : Obj) => HQ.out w1 HD.out _ (HD3.out.alloc o))
            | (refine step_appL encSOk Try.underlying31 (List.nil_append y.x.clients).symm (w0 := w1) ((OwnL.made w1).later ((Kept.refl [] _).alloc (.cells #[.string c] 9 (0, 0))).drew) (HSRC.out w1 HD.out _ (((Kept.refl [] _).alloc _).alloc _).drew) HLN1.out rfl _ _ rfl rfl rfl rfl rfl ?_; intro a3 c3 w3 o3 k3 f3; have HB3 := hid (Kept.refl [] w1); have HD3 := hid (HB3.out.step o3.kept (by simp)); have q3 := HQ.out w1 HD.out w3 HD3.out; have q3' := fun (o : Obj) => HQ.out w1 HD.out _ (HD3.out.alloc o))
            | (refine step_appL encSOk Try.underlying31 (List.nil_append y.x.clients).symm (w0 := w1) (made_at (w := w1.alloc (.cells #[.string c] 9 (0, 0))) ((Kept.refl [] _).alloc _) (Kept.refl [] _).drew (HSZ.out _)) (HSRC.out w1 HD.out _ (((Kept.refl [] _).alloc _).alloc _).drew) HLN1.out rfl _ _ rfl rfl rfl rfl rfl ?_; intro a3 c3 w3 o3 k3 f3; have HB3 := hid (Kept.refl [] w1); have HD3 := hid (HB3.out.step o3.kept (by simp)); have q3 := HQ.out w1 HD.out w3 HD3.out; have q3' := fun (o : Obj) => HQ.out w1 HD.out _ (HD3.out.alloc o))))
          all_goals (go_wp2_with fail)
          all_goals go_ret
          all_goals (
            refine ⟨rfl, HSET.out w4 (HD.out.step K4 (by simp)) a4 c4 M HM.out HJ.out HI2.out ⟨(HKL.out.keptN (HD.out.step K4 (by simp))).1, LB.of encSOk o4⟩ (fun j hj => ?_)⟩
            have h1 := o4.new j hj
            have h3 := HD.out.size
            omega)
      · rw [hb] at HHS
        have E1 := hid (show joinC (absK Y) s.data.toList c.data.toList now = 0 by rw [E0.out, hw, hb]; rfl)
        rw [E1.out, if_pos rfl] at HEU
        rw [HEU.out, E1.out]
        have HJ := hid (show joinX c.data.toList y.x = y.x by unfold joinX; rw [if_pos (show y.x.clients.any (eqC c.data.toList) = true from hb)])
        have HI2 := hid (HIJ.out (.inl (show y.x.clients.any (eqC c.data.toList) = true from hb)))
        clear hw E0 hb
        go_enter Try.func45, Try.ntmps45
        go_wp2_with fail
        refine HF.out.mono ?_
        rintro e w1 ⟨rfl, hd⟩
        have HD := hid hd.kept
        have d8 := (HGC.out _ hd.kept).c8
        have c3 := HC3.out _ hd.kept
        clear hd
        go_wp2_with (first
          | (go_at_call 62; refine (HWD.out _).mono ?_; rintro e w2 ⟨rfl, rfl⟩)
          | (go_at_call 66; refine (HHS.out _ HD.out).mono ?_; rintro e w2 ⟨rfl, rfl⟩))
        go_ret
        exact ⟨rfl, HUP.out _ HD.out HJ.out HI2.out⟩
  · have E0 := hid (show joinC (absK Y) s.data.toList c.data.toList now = findC (absK Y) s.data.toList now by unfold joinC; rw [if_neg hz])
    have E := hid (show joinU (absK Y) s.data.toList c.data.toList now = absK Y by unfold joinU; rw [E0.out, if_neg hz])
    have E2 := hid (show liveI Y s.data.toList now = -1 by unfold liveI; rw [if_neg hz])
    have hne : (findC (absK Y) s.data.toList now != 0) = true := by simpa using hz
    rw [E2.out] at HF
    rw [E.out, E0.out]
    generalize findC (absK Y) s.data.toList now = c at *
    clear h hz
    go_enter Try.func45, Try.ntmps45
    go_wp2_with fail
    refine HF.out.mono ?_
    rintro e w1 ⟨rfl, hd⟩
    have HD := hid hd.kept
    clear hd
    go_wp2_with fail
    go_ret
    exact ⟨rfl, RLeft.same HH.out HD.out⟩
end Go.Proofs.Ytakccoiecmibcaa

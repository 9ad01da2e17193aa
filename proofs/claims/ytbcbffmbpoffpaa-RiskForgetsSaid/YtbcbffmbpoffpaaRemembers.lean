/- RiskRemembers: the walk. -/
import Derived.Test.YtbcbffmbpoffpaaObs
namespace Go.Proofs.Ytbcbffmbpoffpaa
open Go.RowKit Go.Maps Go.ChangeShapes Go.WideShapes Go.ChangeAt

/-! ### plain -/
theorem stepO_len (U : Users) (x : OpD) : (stepO U x).length ≤ U.length + 1 := by
  unfold stepO
  split
  · exact Nat.le_trans (List.length_filter_le _ _) (by omega)
  · unfold obsU
    split
    · rw [aput_len]
      split <;> omega
    · omega
theorem foldO_len (l : List OpD) : ∀ U, (foldO U l).length ≤ U.length + l.length := by
  induction l with
  | nil => intro U; simp [foldO]
  | cons x r ih =>
    intro U
    have h1 := ih (stepO U x)
    have h2 := stepO_len U x
    simp only [List.length_cons]
    show (foldO (stepO U x) r).length ≤ _
    omega
theorem foldO_few {l : List OpD} (h : l.length ≤ 30) : (foldO [] l).length < 256 := by
  have := foldO_len l []
  simp at this
  omega
theorem obsC_few {U : Users} {u d p : Str} (h : U.length < 256) : obsC U u d p = if wordB u && wordB d && wordB p then 0 else 5 := by
  unfold obsC
  split
  · rw [if_pos (by simp [h])]
  · rfl
theorem prof_put (U : Users) (u : Str) (p : Prof) : prof (aput U u p) u = p := by
  unfold prof
  rw [alook_put, if_pos rfl]; rfl
theorem putS_last (l : List Str) (x : Str) : movedL l x = (movedL l x).take ((movedL l x).length - 1) ++ [x] := by
  unfold movedL putS
  have h : (delP (eqS x) l ++ [x]).length - 16 ≤ (delP (eqS x) l).length := by simp
  rw [List.drop_append_of_le_length h]
  simp
theorem moved_has (l : List Str) (x : Str) : hasS (movedL l x) x = true := by
  rw [putS_last]
  simp [hasS, eqS]
theorem moved_last (l : List Str) (x : Str) : lastNe (movedL l x) x = false := by
  have h := putS_last l x
  generalize movedL l x = m at h
  unfold lastNe
  have : m.getD (m.length - 1) [] = x := by
    rw [h]
    simp
  rw [this]; simp
theorem known_after (U : Users) (u d p : Str) (now : Int) : knownB (aput U u (newP U u d p now)) u d = true := by
  unfold knownB
  rw [prof_put]
  exact moved_has _ _
theorem zero_after (U : Users) (u d p : Str) (now : Int) : ((sigsL (aput U u (newP U u d p now)) u d p now).all (fun x => x.2 == 0) && decide ((sigsL (aput U u (newP U u d p now)) u d p now).length = 4)) = true := by
  unfold sigsL travB
  rw [prof_put, alook_put, if_pos rfl]
  rw [show hasS (newP U u d p now).dev d = true from moved_has _ _, show hasS (newP U u d p now).pl p = true from moved_has _ _, show lastNe (newP U u d p now).pl p = false from moved_last _ _]
  rfl

set_option maxHeartbeats 4000000 in
set_option maxRecDepth 100000 in
theorem remembers_walk {w : World} {a : Option Addr} {cap : Nat} {l : List OpD} (h : OpsAt w a l) (x : OpD) (_hx : True) :
    Calls Try.prog 6 #[.slice a l.length cap, .agg #[.int .i64 x.kind, .string ⟨x.u.toArray⟩, .string ⟨x.d.toArray⟩, .string ⟨x.p.toArray⟩, .int .i64 x.now]] w fun e w' => e = .returned (.bool true) ∧ Below w.heap.size w w' := by
  have hbx := heap_alloc_new w (.cells #[.int .i64 x.kind, .string ⟨x.u.toArray⟩, .string ⟨x.d.toArray⟩, .string ⟨x.p.toArray⟩, .int .i64 x.now] 35 (0, 0))
  have hk0 := (Kept.refl [] w).alloc (.cells #[.int .i64 x.kind, .string ⟨x.u.toArray⟩, .string ⟨x.d.toArray⟩, .string ⟨x.p.toArray⟩, .int .i64 x.now] 35 (0, 0))
  obtain ⟨w0, HW0⟩ : ∃ w0, Hid (w0 = w.alloc (.cells #[.int .i64 x.kind, .string ⟨x.u.toArray⟩, .string ⟨x.d.toArray⟩, .string ⟨x.p.toArray⟩, .int .i64 x.now] 35 (0, 0))) := ⟨_, hid rfl⟩
  rw [← HW0.out] at hbx hk0
  have hc1 := cell_at hbx 1
  have hc2 := cell_at hbx 2
  have hc3 := cell_at hbx 3
  simp at hc1 hc2 hc3
  have z1 := size_str x.u
  have z2 := size_str x.d
  have z3 := size_str x.p
  have HBX := hid hbx
  have HK0 := hid hk0
  have hops := hid (h.keptN hk0)
  have hbr := hid (brief_any (cap := cap) hops.out)
  clear h hbx hk0
  by_cases t1 : briefB l = true
  · rw [t1] at hbr
    by_cases t2 : 100 < x.u.length
    · clear t1
      go_enter Try.func6, Try.ntmps6
      go_wp2_with fail
      rw [← HW0.out]
      refine hbr.out.mono ?_
      rintro e w' ⟨rfl, rfl⟩
      go_wp2_with fail
      refine (alive_any _).mono ?_
      rintro e w5 ⟨rfl, k5⟩
      go_wp2_with fail
      go_ret
      exact ⟨rfl, (HK0.out.step k5 (by simp)).bel⟩
    · by_cases t3 : 100 < x.d.length
      · clear t1
        go_enter Try.func6, Try.ntmps6
        go_wp2_with fail
        rw [← HW0.out]
        refine hbr.out.mono ?_
        rintro e w' ⟨rfl, rfl⟩
        go_wp2_with fail
        refine (alive_any _).mono ?_
        rintro e w5 ⟨rfl, k5⟩
        go_wp2_with fail
        go_ret
        exact ⟨rfl, (HK0.out.step k5 (by simp)).bel⟩
      · by_cases t4 : 100 < x.p.length
        · clear t1
          go_enter Try.func6, Try.ntmps6
          go_wp2_with fail
          rw [← HW0.out]
          refine hbr.out.mono ?_
          rintro e w' ⟨rfl, rfl⟩
          go_wp2_with fail
          refine (alive_any _).mono ?_
          rintro e w5 ⟨rfl, k5⟩
          go_wp2_with fail
          go_ret
          exact ⟨rfl, (HK0.out.step k5 (by simp)).bel⟩
        · have HLEN := hid (brief_yes t1).1
          have HSMA := hid (show ∀ y ∈ l, Small y from fun y hy => small_of ((brief_yes t1).2 y hy))
          have HS := hid (small_of (x := x) (by simp [bigB]; omega))
          clear t1
          go_enter Try.func6, Try.ntmps6
          go_wp2_with fail
          rw [← HW0.out]
          refine hbr.out.mono ?_
          rintro e w' ⟨rfl, rfl⟩
          go_wp2_with fail
          refine (new_prof _).mono ?_
          rintro e w1 ⟨rfl, h1, k1, z1⟩
          generalize hpb : w0.heap.size + 1 = pb at *
          generalize hmb : w0.heap.size = mb at *
          have HNE0 := hid (show w.heap.size ≠ mb from fun e => by have := lt_of_heap HBX.out; omega)
          have HB1 := hid (show w.heap.size ≤ mb by have := lt_of_heap HBX.out; omega)
          have HNL := hid (show 0 < l.length → ∀ i ∈ fp a, i ≠ mb from fun h0 i hi => by
            obtain ⟨b, off, rfl, hb, _⟩ := OpsAt.get hops.out h0
            simp only [fp, List.mem_singleton] at hi
            omega)
          have HP1 := hid h1
          have HK1 := hid (k1.mono (T := [mb]) (by simp))
          have HO1 := hid (hops.out.keptN k1)
          clear h1 k1 z1 hpb hmb
          go_wp2_with fail
          refine (observeL_any HP1.out HO1.out HNL.out HSMA.out).mono ?_
          rintro e w2 ⟨⟨v0, rfl⟩, p2, k2⟩
          obtain ⟨U, HU⟩ : ∃ U, Hid (U = foldO [] l) := ⟨_, hid rfl⟩
          rw [← HU.out] at p2
          have HP2 := hid p2
          have HK2 := hid (HK1.out.step k2 (by simp))
          have HCE := hid (fun wq (q : Kept [mb] w0 wq) => And.intro (show wq.cell? ⟨w.heap.size, 1, none⟩ = some (.string ⟨x.u.toArray⟩) by rw [cell_at (q.at HBX.out (by simpa using HNE0.out))]; rfl) (And.intro (show wq.cell? ⟨w.heap.size, 2, none⟩ = some (.string ⟨x.d.toArray⟩) by rw [cell_at (q.at HBX.out (by simpa using HNE0.out))]; rfl) (And.intro (show wq.cell? ⟨w.heap.size, 3, none⟩ = some (.string ⟨x.p.toArray⟩) by rw [cell_at (q.at HBX.out (by simpa using HNE0.out))]; rfl) (show wq.cell? ⟨w.heap.size, 4, none⟩ = some (.int .i64 x.now) by rw [cell_at (q.at HBX.out (by simpa using HNE0.out))]; rfl))))
          have HUL := hid (show U.length < 256 by rw [HU.out]; exact foldO_few HLEN.out)
          clear k2 p2
          obtain ⟨bu, HBU⟩ : ∃ b, Hid (wordB x.u = b) := ⟨_, hid rfl⟩
          obtain ⟨bd, HBD⟩ : ∃ b, Hid (wordB x.d = b) := ⟨_, hid rfl⟩
          obtain ⟨bp, HBP⟩ : ∃ b, Hid (wordB x.p = b) := ⟨_, hid rfl⟩
          have HW1 := hid (fun wq => HBU.out ▸ word_any ⟨x.u.toArray⟩ wq HS.out.u)
          have HW2 := hid (fun wq => HBD.out ▸ word_any ⟨x.d.toArray⟩ wq HS.out.d)
          have HW3 := hid (fun wq => HBP.out ▸ word_any ⟨x.p.toArray⟩ wq HS.out.p)
          obtain ⟨C, HC⟩ : ∃ C, Hid (obsC U x.u x.d x.p = C) := ⟨_, hid rfl⟩
          have HCV := hid (show C = if bu && bd && bp then 0 else 5 by rw [← HC.out, ← HBU.out, ← HBD.out, ← HBP.out]; exact obsC_few HUL.out)
          obtain ⟨V, HV⟩ : ∃ V, Hid (obsU U x.u x.d x.p x.now = V) := ⟨_, hid rfl⟩
          have hob : Calls Try.prog 18 #[.pointer (some ⟨pb, 0, none⟩), .string ⟨x.u.toArray⟩, .string ⟨x.d.toArray⟩, .string ⟨x.p.toArray⟩, .int .i64 x.now] w2 fun e w' => e = .returned (.int .i64 (obsC U x.u x.d x.p)) ∧ ProfsAt w' pb mb (obsU U x.u x.d x.p x.now) ∧ Kept [mb] w2 w' := observe_any HP2.out ⟨x.u.toArray⟩ ⟨x.d.toArray⟩ ⟨x.p.toArray⟩ HS.out.u HS.out.d HS.out.p x.now
          rw [HC.out, HV.out] at hob
          have HOB := hid hob
          clear hob
          obtain ⟨g1, g2, g3, g4⟩ := HCE.out w2 HK2.out
          go_wp2_with fail
          refine HOB.out.mono ?_
          rintro e w3 ⟨rfl, p3, k3⟩
          have HP3 := hid p3
          have HK3 := hid (HK2.out.step k3 (by simp))
          clear p3 k3 g1 g2 g3 g4
          obtain ⟨g1, g2, g3, g4⟩ := HCE.out w3 HK3.out
          have HKF := hid (show Kept [] w w3 from HK0.out.trans HK3.out (fun i hi => .inr (by simp at hi; rw [hi]; exact HB1.out)))
          by_cases hall : bu = true ∧ bd = true ∧ bp = true
          · obtain ⟨rfl, rfl, rfl⟩ := hall
            have hC : C = 0 := by rw [HCV.out]; rfl
            have HVE := hid (show V = aput U x.u (newP U x.u x.d x.p x.now) by rw [← HV.out]; unfold obsU; rw [if_pos (HC.out.trans hC)])
            subst hC
            have hkn : ∀ wq, ProfsAt wq pb mb V → Calls Try.prog 23 #[.pointer (some ⟨pb, 0, none⟩), .string ⟨x.u.toArray⟩, .string ⟨x.d.toArray⟩] wq fun e w' => e = .returned (.bool true) ∧ wq = w' := fun wq p => by
              have := known_any p ⟨x.u.toArray⟩ ⟨x.d.toArray⟩ HS.out.u
              rw [show knownB V (⟨x.u.toArray⟩ : ByteArray).data.toList (⟨x.d.toArray⟩ : ByteArray).data.toList = true by rw [HVE.out]; exact known_after U x.u x.d x.p x.now] at this
              exact this
            have HKN := hid hkn
            clear hkn
            obtain ⟨S, HSS⟩ : ∃ S, Hid (sigsL V x.u x.d x.p x.now = S) := ⟨_, hid rfl⟩
            have hsg : ∀ wq, ProfsAt wq pb mb V → Calls Try.prog 21 #[.pointer (some ⟨pb, 0, none⟩), .string ⟨x.u.toArray⟩, .string ⟨x.d.toArray⟩, .string ⟨x.p.toArray⟩, .int .i64 x.now] wq fun e w' => SigGives wq w' e (sigsL V x.u x.d x.p x.now) := fun wq p => signals_any p ⟨x.u.toArray⟩ ⟨x.d.toArray⟩ ⟨x.p.toArray⟩ HS.out.u x.now
            rw [HSS.out] at hsg
            have HSG := hid hsg
            have hzz := hid (show (S.all (fun x => x.2 == 0) && decide (S.length = 4)) = true by rw [← HSS.out, HVE.out]; exact zero_after U x.u x.d x.p x.now)
            have HZ := hid (fun wq a' c' (s : SigsAt wq a' S) => hzz.out ▸ zero_any (cap := c') s)
            clear hsg
            go_wp2_with (first
              | (go_at_call 28; have _t := tk2; refine (HW3.out _).mono ?_; rintro e wx ⟨rfl, rfl⟩)
              | (go_at_call 28; have _t := tk1; refine (HW2.out _).mono ?_; rintro e wx ⟨rfl, rfl⟩; have tk2 : True := trivial)
              | (go_at_call 28; refine (HW1.out _).mono ?_; rintro e wx ⟨rfl, rfl⟩; have tk1 : True := trivial)
              | (go_at_call 23; refine (HKN.out _ HP3.out).mono ?_; rintro e wx ⟨rfl, rfl⟩)
              | (go_at_call 21; refine (HSG.out _ HP3.out).mono ?_; rintro e w4 ⟨a4, c4, rfl, s4, k4⟩)
              | (go_at_call 29; refine (HZ.out _ _ _ s4).mono ?_; rintro e wx ⟨rfl, rfl⟩)
              | (go_at_call 10; refine (alive_any _).mono ?_; rintro e w5 ⟨rfl, k5⟩))
            go_ret
            exact ⟨rfl, ((HKF.out.step k4 (by simp)).step k5 (by simp)).bel⟩
          · have hC : C = 5 := by rw [HCV.out, if_neg (by simpa [and_assoc] using hall)]
            subst hC
            clear HOB HV HC
            rcases Bool.eq_false_or_eq_true bu with e | e <;> subst e
            · rcases Bool.eq_false_or_eq_true bd with e | e <;> subst e
              · have hp : bp = false := by simpa using hall
                subst hp
                go_wp2_with (first
                  | (go_at_call 28; have _t := tk2; refine (HW3.out _).mono ?_; rintro e wx ⟨rfl, rfl⟩)
                  | (go_at_call 28; have _t := tk1; refine (HW2.out _).mono ?_; rintro e wx ⟨rfl, rfl⟩; have tk2 : True := trivial)
                  | (go_at_call 28; refine (HW1.out _).mono ?_; rintro e wx ⟨rfl, rfl⟩; have tk1 : True := trivial)
                  | (go_at_call 10; refine (alive_any _).mono ?_; rintro e w5 ⟨rfl, k5⟩))
                go_ret
                exact ⟨rfl, (HKF.out.step k5 (by simp)).bel⟩
              · go_wp2_with (first
                  | (go_at_call 28; have _t := tk1; refine (HW2.out _).mono ?_; rintro e wx ⟨rfl, rfl⟩; have tk2 : True := trivial)
                  | (go_at_call 28; refine (HW1.out _).mono ?_; rintro e wx ⟨rfl, rfl⟩; have tk1 : True := trivial)
                  | (go_at_call 10; refine (alive_any _).mono ?_; rintro e w5 ⟨rfl, k5⟩))
                go_ret
                exact ⟨rfl, (HKF.out.step k5 (by simp)).bel⟩
            · go_wp2_with (first
                | (go_at_call 28; refine (HW1.out _).mono ?_; rintro e wx ⟨rfl, rfl⟩; have tk1 : True := trivial)
                | (go_at_call 10; refine (alive_any _).mono ?_; rintro e w5 ⟨rfl, k5⟩))
              go_ret
              exact ⟨rfl, (HKF.out.step k5 (by simp)).bel⟩
  · rw [Bool.not_eq_true] at t1
    rw [t1] at hbr
    clear t1
    go_enter Try.func6, Try.ntmps6
    go_wp2_with fail
    rw [← HW0.out]
    refine hbr.out.mono ?_
    rintro e w' ⟨rfl, rfl⟩
    go_wp2_with fail
    refine (alive_any _).mono ?_
    rintro e w5 ⟨rfl, k5⟩
    go_wp2_with fail
    go_ret
    exact ⟨rfl, (HK0.out.step k5 (by simp)).bel⟩
end Go.Proofs.Ytbcbffmbpoffpaa

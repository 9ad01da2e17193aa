/- WorkflowFails: the walk. -/
import Derived.Test.YtionejokdfgmhaaLive
namespace Go.Proofs.Ytionejokdfgmhaa
open Go.RowKit Go.Maps

theorem encOOk : Enc Try.prog 37 9 136 encO :=
  ⟨fun _ => rfl, fun x v hv => by simp [encO] at hv; rcases hv with rfl | rfl | rfl | rfl | rfl | rfl | rfl | rfl | rfl <;> rfl, by omega, by omega, by
    obtain ⟨i0, hi, h1, h2, h3⟩ := info_parts (show (Try.prog.info? 37).map (fun i => (i.zero, i.size, i.bytes)) = some (some (.agg #[.int .i64 0, .string ⟨#[]⟩, .string ⟨#[]⟩, .string ⟨#[]⟩, .string ⟨#[]⟩, .slice none 0 0, .slice none 0 0, .int .i64 0, .int .i64 0]), 9, 136) by kernel_rfl)
    exact ⟨i0, _, hi, h1, h2, h3, rfl⟩⟩
theorem long_one {w : World} (x : OpD) (hl : OpLists w x) (m : Int) {b : Bool} (hb : longB m [x] = b) :
    Calls Try.prog 10 #[.slice (some ⟨w.heap.size, 0, none⟩) 1 1, .int .i64 m] (w.alloc (.cells #[.int .i64 x.kind, .string ⟨x.id.toArray⟩, .string ⟨x.name.toArray⟩, .string ⟨x.user.toArray⟩, .string ⟨x.by_.toArray⟩, .slice x.sa x.steps.length x.sc, .slice x.ga x.groups.length x.gc, .int .i64 x.until_, .int .i64 x.now] 37 (0, 0))) fun e w' => e = .returned (.bool b) ∧ Kept [] w w' := by
  subst hb
  have k := (Kept.refl [] w).alloc (.cells #[.int .i64 x.kind, .string ⟨x.id.toArray⟩, .string ⟨x.name.toArray⟩, .string ⟨x.user.toArray⟩, .string ⟨x.by_.toArray⟩, .slice x.sa x.steps.length x.sc, .slice x.ga x.groups.length x.gc, .int .i64 x.until_, .int .i64 x.now] 37 (0, 0))
  exact (long_any (cap := 1) (l := [x]) ⟨list_box encOOk (heap_alloc_new w _) rfl (by simp [maxLen]), fun y hy => by rw [List.mem_singleton.1 hy]; exact hl.keptN k⟩ m).mono fun _ _ ⟨e, k'⟩ => ⟨e, k.step k' (by simp)⟩
theorem long_1 (x : OpD) : longB 1 [x] = bigB x := by simp [longB]
theorem St.rebase {w0 w1 w : World} {wb mb : Nat} {U : Wfs} {p : Prot} (h : St w1 w wb mb U p) (k : Kept [] w0 w1) : St w0 w wb mb U p := by
  obtain ⟨X, h1, e, k0, hd, hp⟩ := h.st
  exact ⟨X, h1, e, k.step k0 (by simp), fun i hi => Nat.le_trans k.size (hd i hi), hp⟩
/-- A list that was handed back is protected. -/
theorem St.guardL {w0 w w' : World} {wb mb : Nat} {U : Wfs} {p : Prot} {e : Ending} {l : List Str} (h : St w0 w wb mb U p) (g : Gives w w' e l) : ∃ a c bl, e = .returned (.slice a l.length c) ∧ St w0 w' wb mb U ⟨w', bl⟩ ∧ ∀ w2 U2, St w0 w2 wb mb U2 ⟨w', bl⟩ → StrsAt w2 a l := by
  obtain ⟨a, c, rfl, hs, hn, k⟩ := g
  rcases Nat.eq_zero_or_pos l.length with h0 | h0
  · exact ⟨a, c, [], rfl, (h.keptN k).free w', fun w2 _ _ => by rw [List.length_eq_zero_iff.1 h0]; exact list_nil w2 a⟩
  · exact ⟨a, c, fp a, rfl, h.guard k hs h0 hn, fun w2 U2 h2 => h2.list hs⟩

/-- An operation that fails changes nothing. -/
theorem do_fails (U : Wfs) (x : OpD) (h : (doR U x).e ≠ 0) : doU U x = U := by
  unfold doR at h
  unfold doU
  by_cases h1 : x.kind = 1
  · rw [if_pos h1] at h ⊢; unfold startU; rw [if_neg h]
  rw [if_neg h1] at h ⊢
  by_cases h2 : x.kind = 2
  · rw [if_pos h2] at h ⊢; unfold apprU; rw [if_neg h]
  rw [if_neg h2] at h ⊢
  by_cases h3 : x.kind = 3
  · rw [if_pos h3] at h ⊢; unfold rejU; rw [if_neg h]
  rw [if_neg h3] at h ⊢
  by_cases h4 : x.kind = 4
  · rw [if_pos h4] at h; exact absurd rfl h
  rw [if_neg h4] at h
  by_cases h5 : x.kind = 5
  · rw [if_pos h5] at h ⊢; unfold takeU; rw [if_neg h]
  rw [if_neg h5] at h ⊢
  by_cases h6 : x.kind = 6
  · rw [if_pos h6] at h; exact absurd rfl h
  rw [if_neg h6] at h
  by_cases h7 : x.kind = 7
  · rw [if_pos h7] at h; exact absurd rfl h
  · rw [if_neg h7]

set_option maxHeartbeats 16000000 in
set_option maxRecDepth 100000 in
theorem fails_walk {w : World} {a : Option Addr} {cap : Nat} {l : List OpD} (h : OpsAt w a l) (x : OpD) (hx : OpLists w x) (id : ByteArray) (hid0 : id.size ≤ maxLen) (g : ByteArray) (_hg : g.size ≤ maxLen) (t : Int) (_ht : (Lit.int .i64 t).wf = true) :
    Calls Try.prog 5 #[.slice a l.length cap, .agg #[.int .i64 x.kind, .string ⟨x.id.toArray⟩, .string ⟨x.name.toArray⟩, .string ⟨x.user.toArray⟩, .string ⟨x.by_.toArray⟩, .slice x.sa x.steps.length x.sc, .slice x.ga x.groups.length x.gc, .int .i64 x.until_, .int .i64 x.now], .string id, .string g, .int .i64 t] w fun e w' => e = .returned (.bool true) ∧ Below w.heap.size w w' := by
  have hbx := heap_alloc_new w (.cells #[.int .i64 x.kind, .string ⟨x.id.toArray⟩, .string ⟨x.name.toArray⟩, .string ⟨x.user.toArray⟩, .string ⟨x.by_.toArray⟩, .slice x.sa x.steps.length x.sc, .slice x.ga x.groups.length x.gc, .int .i64 x.until_, .int .i64 x.now] 37 (0, 0))
  have hk0 := (Kept.refl [] w).alloc (.cells #[.int .i64 x.kind, .string ⟨x.id.toArray⟩, .string ⟨x.name.toArray⟩, .string ⟨x.user.toArray⟩, .string ⟨x.by_.toArray⟩, .slice x.sa x.steps.length x.sc, .slice x.ga x.groups.length x.gc, .int .i64 x.until_, .int .i64 x.now] 37 (0, 0))
  obtain ⟨w0, HW0⟩ : ∃ w0, Hid (w0 = w.alloc (.cells #[.int .i64 x.kind, .string ⟨x.id.toArray⟩, .string ⟨x.name.toArray⟩, .string ⟨x.user.toArray⟩, .string ⟨x.by_.toArray⟩, .slice x.sa x.steps.length x.sc, .slice x.ga x.groups.length x.gc, .int .i64 x.until_, .int .i64 x.now] 37 (0, 0))) := ⟨_, hid rfl⟩
  rw [← HW0.out] at hbx hk0
  have HK0 := hid hk0
  have HX := hid hx
  have HCX := hid (fun wq (k : Kept [] w0 wq) => let hb := k.at hbx (by simp)
    And.intro (show wq.cell? ⟨w.heap.size, 0, none⟩ = some (.int .i64 x.kind) by rw [cell_at hb]; rfl) (And.intro (show wq.cell? ⟨w.heap.size, 1, none⟩ = some (.string ⟨x.id.toArray⟩) by rw [cell_at hb]; rfl) (And.intro (show wq.cell? ⟨w.heap.size, 2, none⟩ = some (.string ⟨x.name.toArray⟩) by rw [cell_at hb]; rfl) (And.intro (show wq.cell? ⟨w.heap.size, 3, none⟩ = some (.string ⟨x.user.toArray⟩) by rw [cell_at hb]; rfl) (And.intro (show wq.cell? ⟨w.heap.size, 4, none⟩ = some (.string ⟨x.by_.toArray⟩) by rw [cell_at hb]; rfl) (And.intro (show wq.cell? ⟨w.heap.size, 5, none⟩ = some (.slice x.sa x.steps.length x.sc) by rw [cell_at hb]; rfl) (And.intro (show wq.cell? ⟨w.heap.size, 6, none⟩ = some (.slice x.ga x.groups.length x.gc) by rw [cell_at hb]; rfl) (And.intro (show wq.cell? ⟨w.heap.size, 7, none⟩ = some (.int .i64 x.until_) by rw [cell_at hb]; rfl) (show wq.cell? ⟨w.heap.size, 8, none⟩ = some (.int .i64 x.now) by rw [cell_at hb]; rfl)))))))))
  have H := hid h
  have HLG := hid (fun wq (k : Kept [] w0 wq) => long_any (cap := cap) (h.keptN (hk0.step k (by simp))) 16)
  clear h hx hbx hk0
  cases t1 : longB 16 l
  · rw [t1] at HLG
    cases t2 : bigB x
    · have HSX := hid (small_of t2)
      have HSL := hid (long_no t1).2
      have T2 := hid ((long_1 x).trans t2)
      by_cases t3 : 300 < id.size
      · clear t1 t2
        go_enter Try.func5, Try.ntmps5
        go_wp2_with fail
        rw [← HW0.out]
        refine (live_any w0).mono ?_
        rintro e w1 ⟨rfl, k1⟩
        have K1 := hid k1
        clear k1
        go_wp2_with fail
        refine (HLG.out _ K1.out).mono ?_
        rintro e w2 ⟨rfl, k2⟩
        have K2 := hid (K1.out.step k2 (by simp))
        obtain ⟨d0, d1, d2, d3, d4, d5, d6, d7, d8⟩ := HCX.out _ K2.out
        clear k2
        go_wp2_with fail
        refine (long_one x (HX.out.keptN (HK0.out.step K2.out (by simp))) 1 T2.out).mono ?_
        rintro e w3 ⟨rfl, k3⟩
        have K3 := hid (K2.out.step k3 (by simp))
        clear k3
        go_wp2_with fail
        go_ret
        exact ⟨rfl, (HK0.out.step K3.out (by simp)).bel⟩
      · by_cases t4 : 300 < g.size
        · clear t1 t2
          go_enter Try.func5, Try.ntmps5
          go_wp2_with fail
          rw [← HW0.out]
          refine (live_any w0).mono ?_
          rintro e w1 ⟨rfl, k1⟩
          have K1 := hid k1
          clear k1
          go_wp2_with fail
          refine (HLG.out _ K1.out).mono ?_
          rintro e w2 ⟨rfl, k2⟩
          have K2 := hid (K1.out.step k2 (by simp))
          obtain ⟨d0, d1, d2, d3, d4, d5, d6, d7, d8⟩ := HCX.out _ K2.out
          clear k2
          go_wp2_with fail
          refine (long_one x (HX.out.keptN (HK0.out.step K2.out (by simp))) 1 T2.out).mono ?_
          rintro e w3 ⟨rfl, k3⟩
          have K3 := hid (K2.out.step k3 (by simp))
          clear k3
          go_wp2_with fail
          go_ret
          exact ⟨rfl, (HK0.out.step K3.out (by simp)).bel⟩
        · clear t1 t2
          have hfld : ∀ (x y z u v : Value) (w : World), (Instr.field 33 (.agg #[x, y, z, u, v]) 4).run Try.prog w = .ok v w := fun _ _ _ _ _ _ => by kernel_rfl
          go_enter Try.func5, Try.ntmps5
          go_wp2_with fail
          rw [← HW0.out]
          refine (live_any w0).mono ?_
          rintro e w1 ⟨rfl, k1⟩
          have K1 := hid k1
          clear k1
          go_wp2_with fail
          refine (HLG.out _ K1.out).mono ?_
          rintro e w2 ⟨rfl, k2⟩
          have K2 := hid (K1.out.step k2 (by simp))
          obtain ⟨d0, d1, d2, d3, d4, d5, d6, d7, d8⟩ := HCX.out _ K2.out
          clear k2
          go_wp2_with fail
          refine (long_one x (HX.out.keptN (HK0.out.step K2.out (by simp))) 1 T2.out).mono ?_
          rintro e w3 ⟨rfl, k3⟩
          have K3 := hid (K2.out.step k3 (by simp))
          clear k3
          go_wp2_with fail
          refine (run_any (cap := cap) (H.out.keptN (HK0.out.step K3.out (by simp))) HSL.out).mono ?_
          rintro e w4 ⟨wb, mb, rfl, h4⟩
          have H4 := hid (h4.rebase K3.out)
          clear h4
          obtain ⟨U, HU⟩ : ∃ U, Hid (runU l = U) := ⟨_, hid rfl⟩
          rw [HU.out] at H4
          obtain ⟨R, HR⟩ : ∃ R, Hid (stR U id.data.toList t = R) := ⟨_, hid rfl⟩
          obtain ⟨O, HO⟩ : ∃ O, Hid (openL U g.data.toList t = O) := ⟨_, hid rfl⟩
          go_wp2_with fail
          refine (state_st H4.out id hid0 t HR.out).mono ?_
          rintro e w5 ⟨rfl, k5⟩
          have H5 := hid (H4.out.keptN k5)
          clear k5 H4
          go_wp2_with fail
          refine (open_st H5.out g t HO.out).mono ?_
          rintro e w6 g6
          obtain ⟨a6, c6, bl, rfl, h6, hl6⟩ := H5.out.guardL g6
          have H6 := hid h6
          have HL6 := hid hl6
          clear h6 hl6 g6 H5
          obtain ⟨d0, d1, d2, d3, d4, d5, d6, d7, d8⟩ := HCX.out _ H6.out.kept
          go_wp2_with fail
          refine (do_st H6.out x HSX.out (HX.out.keptN (HK0.out.step H6.out.kept (by simp)))).mono ?_
          rintro e w7 ⟨⟨a7, c7, rfl, s7, n7⟩, h7⟩
          by_cases hz : (doR U x).e = 0
          · have hzb : ((doR U x).e == 0) = true := by rw [beq_iff_eq]; exact hz
            have H7 := hid h7
            clear hz h7
            go_wp2_with fail
            go_ret
            exact ⟨rfl, (HK0.out.step H7.out.kept (by simp)).bel⟩
          · have hzb : ((doR U x).e == 0) = false := by rw [beq_eq_false_iff_ne]; exact hz
            have H7 := hid h7
            rw [do_fails U x hz] at H7
            clear hz h7
            have q0 : (R.1 == R.1) = true := beq_self_eq_true _
            have q1 : ((R.2 : Int) == (R.2 : Int)) = true := beq_self_eq_true _
            go_wp2_with fail
            refine (state_st H7.out id hid0 t HR.out).mono ?_
            rintro e w8 ⟨rfl, k8⟩
            have H8 := hid (H7.out.keptN k8)
            clear k8 H7
            go_wp2_with fail
            refine (open_st H8.out g t HO.out).mono ?_
            rintro e w9 ⟨a9, c9, rfl, s9, n9, k9⟩
            have H9 := hid (H8.out.keptN k9)
            have HS9 := hid s9
            clear s9 n9 k9 H8
            go_wp2_with fail
            refine (sameS_any (HL6.out _ _ H9.out) HS9.out).mono ?_
            rintro e w10 ⟨rfl, d10⟩
            have K10 := hid (H9.out.kept.step d10.kept (by simp))
            go_wp2_with fail
            go_ret
            exact ⟨rfl, (HK0.out.step K10.out (by simp)).bel⟩
    · have T2 := hid ((long_1 x).trans t2)
      clear t1 t2
      go_enter Try.func5, Try.ntmps5
      go_wp2_with fail
      rw [← HW0.out]
      refine (live_any w0).mono ?_
      rintro e w1 ⟨rfl, k1⟩
      have K1 := hid k1
      clear k1
      go_wp2_with fail
      refine (HLG.out _ K1.out).mono ?_
      rintro e w2 ⟨rfl, k2⟩
      have K2 := hid (K1.out.step k2 (by simp))
      obtain ⟨d0, d1, d2, d3, d4, d5, d6, d7, d8⟩ := HCX.out _ K2.out
      clear k2
      go_wp2_with fail
      refine (long_one x (HX.out.keptN (HK0.out.step K2.out (by simp))) 1 T2.out).mono ?_
      rintro e w3 ⟨rfl, k3⟩
      have K3 := hid (K2.out.step k3 (by simp))
      clear k3
      go_wp2_with fail
      go_ret
      exact ⟨rfl, (HK0.out.step K3.out (by simp)).bel⟩
  · rw [t1] at HLG
    clear t1
    go_enter Try.func5, Try.ntmps5
    go_wp2_with fail
    rw [← HW0.out]
    refine (live_any w0).mono ?_
    rintro e w1 ⟨rfl, k1⟩
    have K1 := hid k1
    clear k1
    go_wp2_with fail
    refine (HLG.out _ K1.out).mono ?_
    rintro e w2 ⟨rfl, k2⟩
    have K2 := hid (K1.out.step k2 (by simp))
    obtain ⟨d0, d1, d2, d3, d4, d5, d6, d7, d8⟩ := HCX.out _ K2.out
    clear k2
    go_wp2_with fail
    go_ret
    exact ⟨rfl, (HK0.out.step K2.out (by simp)).bel⟩
end Go.Proofs.Ytionejokdfgmhaa

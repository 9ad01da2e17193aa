/- SessionLimits: the walk. Printed by gen_limits.py. -/
import Derived.Test.YtakccoiecmibcaaName
namespace Go.Proofs.Ytakccoiecmibcaa
open Go.RowKit Go.Maps

/-- The sessions while clients join. -/
def ljU (N j : Nat) : Sss := if N = 0 then [] else limJ (min N 256 - 1) (min j 256)
theorem ljU_start (N : Nat) : limU (min N 256) = ljU N 0 := by
  unfold ljU
  by_cases h : N = 0
  · rw [if_pos h, h]; rfl
  · rw [if_neg h, show min N 256 = (min N 256 - 1) + 1 by omega]
    exact limJ_zero _
theorem ljU_ok (N j : Nat) : AllOk (ljU N j) := by
  unfold ljU
  split
  · exact ⟨by simp⟩
  · exact limJ_ok _ _
theorem ljU_len (N j : Nat) : (ljU N j).length = min N 256 := by
  unfold ljU
  split
  · simp; omega
  · unfold limJ
    simp
    omega
theorem ljU_join {N j : Nat} (hN : 0 < N) (hj : j < 300) : joinC (ljU N j) (nameS 0) (nameS j) 2 = (if 256 ≤ j then 3 else 0) ∧ joinU (ljU N j) (nameS 0) (nameS j) 2 = ljU N (j + 1) := by
  unfold ljU
  simp only [if_neg (show ¬ N = 0 by omega)]
  exact lim_join (m := min N 256 - 1) (by omega) hj
theorem name_size (i : Nat) : (⟨(nameS i).toArray⟩ : ByteArray).size ≤ maxLen := by rw [size_str]; unfold nameS maxLen; simp

set_option maxHeartbeats 64000000 in
set_option maxRecDepth 100000 in
theorem limits_walk {w : World} (n : Int) (_wn : (Lit.int .i64 n).wf = true) (clients : Int) (_wc : (Lit.int .i64 clients).wf = true) :
    Calls Try.prog 3 #[.int .i64 n, .int .i64 clients] w fun e w' => e = .returned (.bool true) ∧ Below w.heap.size w w' := by
  obtain ⟨N, hN⟩ : ∃ N : Nat, max 0 (min n 300) = (N : Int) := ⟨(max 0 (min n 300)).toNat, by omega⟩
  obtain ⟨C, hC⟩ : ∃ C : Nat, max 0 (min clients 300) = (C : Int) := ⟨(max 0 (min clients 300)).toNat, by omega⟩
  have hN3 : (N : Int) ≤ 300 := by omega
  have hC3 : (C : Int) ≤ 300 := by omega
  clear _wn _wc
  obtain ⟨K, hK⟩ : ∃ K : Nat, min (N : Int) 256 = (K : Int) := ⟨min N 256, by omega⟩
  have HKK := hid (show min N 256 = K by omega)
  have hK2 : (K : Int) ≤ 256 := by omega
  go_enter Try.func3, Try.ntmps3
  go_wp2_with fail
  refine (new_st (Kept.refl [] w) (idle := 10) (abs := 100) (by decide)).mono ?_
  rintro e w2 ⟨sb, mb, rfl, h2⟩
  rw [lim10, lim100] at h2
  have H2 := hid h2.free
  clear h2
  go_wp2_with fail
  go_loopw [7] (fun i wr => ∃ k : Nat, k ≤ N ∧ i = .int .i64 k ∧ St w wr sb mb 10 100 (limU (min k 256)) [] w2) (fun i _ => N - (intOf i).toNat)
  case atStart => exact ⟨0, Nat.zero_le _, rfl, H2.out⟩
  case round =>
    obtain ⟨k, hk, rfl, hst⟩ := hrel
    have HST := hid hst
    clear hst H2
    have hk0 : (0 : Int) ≤ k := by omega
    by_cases hlt : k < N
    · have hk1 : (k : Int) < N := by omega
      have HS := hid (lim_start (k := k) (by omega))
      have hk3 : k < 300 := by omega
      by_cases h256 : 256 ≤ k
      · skip
        have HC := hid HS.out.1
        rw [if_pos h256] at HC
        have hki : (256 : Int) ≤ k := by omega
        go_wp2_with fail
        refine (name_any k hk3 _).mono ?_
        rintro e w3 ⟨rfl, k3⟩
        have H3 := hid (HST.out.keptN k3)
        clear k3
        go_wp2_with fail
        refine (proofs_any 1 _).mono ?_
        rintro e w4 ⟨rfl, s4, k4⟩
        have H4 := hid (H3.out.keptN k4)
        have HS4 := hid s4
        clear s4 k4 H3
        go_wp2_with fail
        refine (start_st H4.out ⟨(nameS k).toArray⟩ ⟨#[97, 110, 110]⟩ ⟨#[116]⟩ ⟨#[]⟩ (name_size k) (by decide) (by decide) (by decide) (cap := 1) HS4.out (by decide) 1 HC.out).mono ?_
        rintro e w5 ⟨rfl, h5⟩
        change St w w5 sb mb 10 100 (startU 10 100 (limU (min k 256)) (nameS k) zAnn zT [] [(1, 1)] 1) _ _ at h5
        rw [HS.out.2] at h5
        have H5 := hid h5
        clear h5 H4
        go_wp2_with fail
        go_roundw
        case rel => exact ⟨k + 1, by omega, by go_num, H5.out⟩
        case measure => simp [intOf]; omega
      · skip
        have HC := hid HS.out.1
        rw [if_neg h256] at HC
        have hki : (k : Int) < 256 := by omega
        go_wp2_with fail
        refine (name_any k hk3 _).mono ?_
        rintro e w3 ⟨rfl, k3⟩
        have H3 := hid (HST.out.keptN k3)
        clear k3
        go_wp2_with fail
        refine (proofs_any 1 _).mono ?_
        rintro e w4 ⟨rfl, s4, k4⟩
        have H4 := hid (H3.out.keptN k4)
        have HS4 := hid s4
        clear s4 k4 H3
        go_wp2_with fail
        refine (start_st H4.out ⟨(nameS k).toArray⟩ ⟨#[97, 110, 110]⟩ ⟨#[116]⟩ ⟨#[]⟩ (name_size k) (by decide) (by decide) (by decide) (cap := 1) HS4.out (by decide) 1 HC.out).mono ?_
        rintro e w5 ⟨rfl, h5⟩
        change St w w5 sb mb 10 100 (startU 10 100 (limU (min k 256)) (nameS k) zAnn zT [] [(1, 1)] 1) _ _ at h5
        rw [HS.out.2] at h5
        have H5 := hid h5
        clear h5 H4
        go_wp2_with fail
        go_roundw
        case rel => exact ⟨k + 1, by omega, by go_num, H5.out⟩
        case measure => simp [intOf]; omega
    · have hkN : k = N := by omega
      subst hkN
      have hk1 : ¬ ((k : Int) < k) := by omega
      rw [ljU_start] at HST
      go_wp2_with fail
      go_loopw [9] (fun i wx => ∃ j : Nat, j ≤ C ∧ i = .int .i64 j ∧ St w wx sb mb 10 100 (ljU k j) [] w2) (fun i _ => C - (intOf i).toNat)
      case atStart => exact ⟨0, Nat.zero_le _, rfl, HST.out⟩
      case round =>
        clear HST
        obtain ⟨j, hj, rfl, hst⟩ := hrel
        have HST := hid hst
        clear hst
        have hj0 : (0 : Int) ≤ j := by omega
        by_cases hjl : j < C ∧ 0 < k
        · have hj1 : (j : Int) < C := by omega
          have hk9 : (0 : Int) < k := by omega
          have hj3 : j < 300 := by omega
          have HS := hid (ljU_join (N := k) (j := j) hjl.2 hj3)
          clear hjl
          by_cases h256 : 256 ≤ j
          · skip
            have HC := hid HS.out.1
            rw [if_pos h256] at HC
            have hji : (256 : Int) ≤ j := by omega
            have hn0 := name_any 0 (by decide)
            go_wp2_with fail
            refine (hn0 _).mono ?_
            rintro e w3 ⟨rfl, k3⟩
            have H3 := hid (HST.out.keptN k3)
            clear k3
            go_wp2_with fail
            refine (name_any j hj3 _).mono ?_
            rintro e w4 ⟨rfl, k4⟩
            have H4 := hid (H3.out.keptN k4)
            clear k4 H3
            go_wp2_with fail
            refine (join_st H4.out ⟨(nameS 0).toArray⟩ ⟨(nameS j).toArray⟩ (name_size 0) (name_size j) 2 HC.out).mono ?_
            rintro e w5 ⟨rfl, h5⟩
            change St w w5 sb mb 10 100 (joinU (ljU k j) (nameS 0) (nameS j) 2) _ _ at h5
            rw [HS.out.2] at h5
            have H5 := hid h5
            clear h5 H4
            go_wp2_with fail
            go_roundw
            case rel => exact ⟨j + 1, by omega, by go_num, H5.out⟩
            case measure => simp [intOf]; omega
          · skip
            have HC := hid HS.out.1
            rw [if_neg h256] at HC
            have hji : (j : Int) < 256 := by omega
            have hn0 := name_any 0 (by decide)
            go_wp2_with fail
            refine (hn0 _).mono ?_
            rintro e w3 ⟨rfl, k3⟩
            have H3 := hid (HST.out.keptN k3)
            clear k3
            go_wp2_with fail
            refine (name_any j hj3 _).mono ?_
            rintro e w4 ⟨rfl, k4⟩
            have H4 := hid (H3.out.keptN k4)
            clear k4 H3
            go_wp2_with fail
            refine (join_st H4.out ⟨(nameS 0).toArray⟩ ⟨(nameS j).toArray⟩ (name_size 0) (name_size j) 2 HC.out).mono ?_
            rintro e w5 ⟨rfl, h5⟩
            change St w w5 sb mb 10 100 (joinU (ljU k j) (nameS 0) (nameS j) 2) _ _ at h5
            rw [HS.out.2] at h5
            have H5 := hid h5
            clear h5 H4
            go_wp2_with fail
            go_roundw
            case rel => exact ⟨j + 1, by omega, by go_num, H5.out⟩
            case measure => simp [intOf]; omega
        · have HOK := hid (ljU_ok k j)
          have HLN := hid (show lenN (ljU k j) = K by rw [ok_len HOK.out, ljU_len, HKK.out])
          obtain ⟨L1, HL1⟩ : ∃ L, Hid (ofL (ljU k j) zAnn 1 = L) := ⟨_, hid rfl⟩
          have hl1 : (L1.length : Int) = K := by rw [← HL1.out, ok_of HOK.out, ljU_len, HKK.out]
          obtain ⟨L2, HL2⟩ : ∃ L, Hid (expL (ljU k j) 11 = L) := ⟨_, hid rfl⟩
          have hl2 : (L2.length : Int) = K := by rw [← HL2.out, ok_exp HOK.out, ljU_len, HKK.out]
          by_cases hjC : j < C
          · have hj1 : (j : Int) < C := by omega
            have hk9 : ¬ ((0 : Int) < k) := by omega
            go_wp2_with fail
            refine (get_nil _ _ _).mono ?_
            rintro e w3 ⟨pa3, pc3, ca3, cc3, rfl, _, _, _, _, k3⟩
            have H3 := hid (HST.out.keptN (k3.alloc (.cells #[.string ⟨(([], zs) : Str × Sess).1.toArray⟩, .string ⟨(([], zs) : Str × Sess).2.user.toArray⟩, .string ⟨(([], zs) : Str × Sess).2.tenant.toArray⟩, .string ⟨(([], zs) : Str × Sess).2.device.toArray⟩, .int .i64 (([], zs) : Str × Sess).2.started, .int .i64 (([], zs) : Str × Sess).2.seen, .int .i64 (([], zs) : Str × Sess).2.until_, .slice pa3 (([], zs) : Str × Sess).2.proofs.length pc3, .slice ca3 (([], zs) : Str × Sess).2.clients.length cc3] 33 (0, 0))))
            clear k3
            go_wp2_with fail
            refine (len_st H3.out HLN.out).mono ?_
            rintro e w4 ⟨rfl, k4⟩
            have H4 := hid (H3.out.keptN k4)
            clear k4 H3
            go_wp2_with fail
            refine (of_st H4.out ⟨#[97, 110, 110]⟩ 1 HL1.out).mono ?_
            rintro e w5 ⟨a5, c5, rfl, _, _, k5⟩
            have H5 := hid (H4.out.keptN k5)
            clear k5 H4
            go_wp2_with fail
            refine (expire_st H5.out 11 HL2.out).mono ?_
            rintro e w6 ⟨⟨a6, c6, rfl, _, _⟩, h6⟩
            have H6 := hid h6
            clear h6 H5
            go_wp2_with fail
            refine (len_nil _).mono ?_
            rintro e w7 ⟨rfl, rfl⟩
            go_wp2_with fail
            refine (awake_any _).mono ?_
            rintro e w99 ⟨rfl, k99⟩
            have K99 := hid ((H6.out.kept).step k99 (by simp))
            clear k99
            go_wp2_with fail
            go_ret
            exact ⟨rfl, K99.out.bel⟩
          · have hj1 : ¬ ((j : Int) < C) := by omega
            go_wp2_with fail
            refine (get_nil _ _ _).mono ?_
            rintro e w3 ⟨pa3, pc3, ca3, cc3, rfl, _, _, _, _, k3⟩
            have H3 := hid (HST.out.keptN (k3.alloc (.cells #[.string ⟨(([], zs) : Str × Sess).1.toArray⟩, .string ⟨(([], zs) : Str × Sess).2.user.toArray⟩, .string ⟨(([], zs) : Str × Sess).2.tenant.toArray⟩, .string ⟨(([], zs) : Str × Sess).2.device.toArray⟩, .int .i64 (([], zs) : Str × Sess).2.started, .int .i64 (([], zs) : Str × Sess).2.seen, .int .i64 (([], zs) : Str × Sess).2.until_, .slice pa3 (([], zs) : Str × Sess).2.proofs.length pc3, .slice ca3 (([], zs) : Str × Sess).2.clients.length cc3] 33 (0, 0))))
            clear k3
            go_wp2_with fail
            refine (len_st H3.out HLN.out).mono ?_
            rintro e w4 ⟨rfl, k4⟩
            have H4 := hid (H3.out.keptN k4)
            clear k4 H3
            go_wp2_with fail
            refine (of_st H4.out ⟨#[97, 110, 110]⟩ 1 HL1.out).mono ?_
            rintro e w5 ⟨a5, c5, rfl, _, _, k5⟩
            have H5 := hid (H4.out.keptN k5)
            clear k5 H4
            go_wp2_with fail
            refine (expire_st H5.out 11 HL2.out).mono ?_
            rintro e w6 ⟨⟨a6, c6, rfl, _, _⟩, h6⟩
            have H6 := hid h6
            clear h6 H5
            go_wp2_with fail
            refine (len_nil _).mono ?_
            rintro e w7 ⟨rfl, rfl⟩
            go_wp2_with fail
            refine (awake_any _).mono ?_
            rintro e w99 ⟨rfl, k99⟩
            have K99 := hid ((H6.out.kept).step k99 (by simp))
            clear k99
            go_wp2_with fail
            go_ret
            exact ⟨rfl, K99.out.bel⟩
end Go.Proofs.Ytakccoiecmibcaa

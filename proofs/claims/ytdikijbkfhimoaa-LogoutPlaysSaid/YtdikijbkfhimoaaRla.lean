/- Given of the reference, walked. -/
import Derived.Test.YtdikijbkfhimoaaRl9
namespace Go.Proofs.Ytdikijbkfhimoaa
open Go.RowKit Go.Maps

theorem box_s {w : World} {x : Str} {n : Nat} (hn : w.heap.size = n) : StrsAt (w.alloc (.cells #[.string ⟨x.toArray⟩] 9 (0, 0))) (some ⟨n, 0, none⟩) [x] := by
  subst hn
  exact list_box encSOk (heap_alloc_new _ _) (by simp [rowV, encS, sV]) (by simp [maxLen])
theorem givR_len (l : List RN) : (givR l).length ≤ l.length := by unfold givR; rw [List.length_map]; exact List.length_filter_le _ _
section
variable {w : World} {qb most delay : Nat} {a : Option Addr} {cap : Nat} {Y : List RQ} {U : Log}
set_option maxHeartbeats 4000000 in
theorem rgiven_any (h : RAt w qb most delay a cap Y) (hr : Rel U Y) (hg : Good most delay U) (s : ByteArray) :
    Calls Try.prog 26 #[.pointer (some ⟨qb, 0, none⟩), .string s] w fun e w' => ∃ pa pc, e = .returned (.slice pa (givenL U s.data.toList).length pc) ∧ OwnL 9 1 encS w w' pa pc (givenL U s.data.toList) := by
  have HA := hid (at_any h s)
  rcases hr.look s.data.toList with ⟨e, hn⟩ | ⟨i, hi, e, hs, x, hx, hrx⟩
  · rw [e] at HA
    have E := hid (show givenL U s.data.toList = [] by unfold givenL; rw [hn])
    rw [E.out]
    clear h hr e hn hg
    go_enter Try.func26, Try.ntmps26
    go_wp2_with (go_at_call 37; refine HA.out.mono ?_; rintro e w' ⟨rfl, rfl⟩)
    go_loop [5, 7] (fun av kv => av = .slice none 0 0 ∧ kv = .int .i64 0) (fun _ _ => 0)
    case atStart => exact ⟨rfl, rfl⟩
    case round =>
      obtain ⟨rfl, rfl⟩ := hrel
      go_wp2_with fail
      go_ret
      exact ⟨none, 0, rfl, OwnL.start w⟩
  · rw [e] at HA
    have E := hid (show givenL U s.data.toList = givR Y[i].l by unfold givenL; rw [hx]; exact given_rel hrx (hg.each _ (alook_some hx)).uniq)
    rw [E.out]
    have HC2 := hid (fun W (kW : Kept [] w W) => (h.keptN kW).c2)
    have hfew := h.len
    have hl := h.lens _ (List.getElem_mem hi)
    have HNT := hid (fun W (kW : Kept [] w W) k (hk : k < Y[i].l.length) => (h.keptN kW).note hi hk)
    have HGT := hid (fun W (kW : Kept [] w W) => (h.keptN kW).get hi)
    have j1 : (0 : Int) ≤ i := by omega
    have j2 : (i : Int) < Y.length := by omega
    clear h hr e hs hx hrx hg
    generalize Y[i] = y at *
    go_enter Try.func26, Try.ntmps26
    go_wp2_with (go_at_call 37; refine HA.out.mono ?_; rintro e w' ⟨rfl, rfl⟩)
    go_loopw [5, 7] (fun av kv wr => ∃ (k : Nat) (D : List Str) (pa : Option Addr) (pc : Nat), k ≤ y.l.length ∧ kv = .int .i64 (k : Int) ∧ av = .slice pa D.length pc ∧ Hid (D = givR (y.l.take k)) ∧ Hid (OwnL 9 1 encS w wr pa pc D)) (fun _ kv _ => y.l.length - (intOf kv).toNat)
    case atStart => exact ⟨0, [], none, 0, Nat.zero_le _, rfl, rfl, hid (by simp [givR]), hid (OwnL.start w)⟩
    case round =>
      obtain ⟨k, D, pa, pc, hk, rfl, rfl, HD, HO⟩ := hrel
      have k1 : (0 : Int) ≤ k := by omega
      have c2 := HC2.out _ HO.out.kept
      obtain ⟨g, rfl, hgz, d0, d1⟩ := HGT.out _ HO.out.kept
      clear d0
      by_cases hkl : k < y.l.length
      · have k2 : (k : Int) < y.l.length := by omega
        obtain ⟨b, eb, hb, n0, _, _, n3, _⟩ := HNT.out _ HO.out.kept k hkl
        rw [eb] at d1
        have HS := hid (givR_snoc y.l hkl)
        have HDL := hid (show D.length ≤ 256 by rw [HD.out]; have := givR_len (y.l.take k); rw [List.length_take] at this; omega)
        have EB := hid eb
        clear eb
        unfold sV at n0
        generalize y.l[k] = r at *
        obtain ⟨rc, rf, rb, rs⟩ := r
        dsimp only at *
        by_cases h3 : rs = 3
        · have h4 : isSt 3 (⟨rc, rf, rb, rs⟩ : RN) = true := decide_eq_true h3
          rw [h4, if_pos rfl] at HS
          subst h3
          clear h4
          obtain ⟨E2, HE2⟩ : ∃ E2, Hid (E2 = D ++ [rc]) := ⟨_, hid rfl⟩
          have HD2 := hid (show E2 = givR (y.l.take (k + 1)) by rw [HE2.out, HS.out, HD.out])
          go_wp2_with (at_builtin; refine wp_appL encSOk Try.underlying32 HE2.out (w0 := w) (HO.out.later ((Kept.refl [] _).alloc _)) (box_s (x := rc) rfl) (show D.length + 1 ≤ 1000000 by have := HDL.out; omega) rfl _ _ rfl rfl rfl rfl rfl ?_; intro a3 c3 w4 o4 k4 f4)
          go_roundw
          case rel => exact ⟨k + 1, E2, a3, c3, by omega, by go_num, rfl, HD2, hid o4⟩
          case measure => simp [intOf]; omega
        · have h4 : isSt 3 (⟨rc, rf, rb, rs⟩ : RN) = false := decide_eq_false h3
          rw [h4] at HS
          have i3 : decide (rs = 3) = false := decide_eq_false h3
          have i5 : (rs == 3) = false := beq_eq_false_iff_ne.2 h3
          clear h3 h4
          go_wp2_with fail
          go_roundw
          case rel => exact ⟨k + 1, D, pa, pc, by omega, by go_num, rfl, hid (by rw [HS.out, if_neg (by simp), List.append_nil]; exact HD.out), HO⟩
          case measure => simp [intOf]; omega
      · obtain rfl : k = y.l.length := by omega
        rw [List.take_length] at HD
        have k3 : decide ((y.l.length : Int) < y.l.length) = false := decide_eq_false (by omega)
        go_wp2_with fail
        go_ret
        have ho := HO.out
        rw [HD.out] at ho
        exact ⟨pa, pc, by rw [HD.out]; rfl, ho⟩
end
end Go.Proofs.Ytdikijbkfhimoaa

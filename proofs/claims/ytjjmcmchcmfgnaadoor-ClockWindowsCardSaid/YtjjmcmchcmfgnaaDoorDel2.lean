/- Contract: slices.DeleteFunc over windows. -/
import Derived.Test.YtjjmcmchcmfgnaaDoorDel
namespace Go.Proofs.YtjjmcmchcmfgnaaDoor
open Go.RowKit

set_option maxHeartbeats 2000000 in
set_option maxRecDepth 100000 in
theorem delete_any {w0 w : World} {a : Option Addr} {cap : Nat} {l : List Win} (h : OwnW w0 w a cap l) (hlen : l.length ≤ 100000) :
    Calls Tryd.prog 31 #[.slice a l.length cap, .func (.func 33) #[] #[]] w fun e w' => ∃ a' cap', e = .returned (.slice a' (delP voidB l).length cap') ∧ OwnW w0 w' a' cap' (delP voidB l) := by
  have HX := hid (indexFunc_any (cap := cap) (h.seq encWOk))
  have HU := hid union1_any
  generalize voidB = pr at *
  rcases idx_split (p := pr) (l := l) with ⟨e, hn⟩ | ⟨i0, hi0, e, hp, hn⟩
  · have E := hid (delP_none hn)
    rw [e] at HX
    clear e
    go_enter Tryd.func31, Tryd.ntmps31
    go_wp2_with (go_at_call 49; refine HX.out.mono ?_; rintro e w1 ⟨rfl, hk1⟩)
    go_ret
    rw [E.out]
    exact ⟨a, cap, rfl, h.later hk1⟩
  · rw [e] at HX
    clear e
    have HM := hid (Mix.start hi0 hp hn)
    have hne : ((i0 : Int) == -1) = false := by rw [beq_eq_false_iff_ne]; omega
    obtain ⟨g, cur, rfl, hg, hncap, hcm, _⟩ := row_some h.row (by omega)
    have hgw := lt_of_heap hg
    have hgn : w0.heap.size ≤ g := h.new g (by simp [fp])
    have hr0 := h.row
    have hk0 := h.kept
    unfold maxLen at hcm
    clear h hp hn
    go_enter Tryd.func31, Tryd.ntmps31
    go_wp2_with (go_at_call 49; refine HX.out.mono ?_; rintro e w1 ⟨rfl, hk1⟩)
    go_loopw [5, 6] (fun iv jv wr => ∃ (i j : Nat) (mix : List Win), iv = .int .i64 i ∧ jv = .int .i64 j ∧ Hid (Mix pr l mix i j) ∧ wr.ownsRow 0 27 2 (.slice (some ⟨g, 0, none⟩) l.length cap) l.length (rowV encW mix) ∧ Kept [g] w wr) (fun _ jv _ => l.length - (intOf jv).toNat)
    case atStart => exact ⟨i0, i0 + 1, l, rfl, by first | rfl | go_num, HM, row_kept hr0 hk1 (by simp), hk1.mono (by simp)⟩
    case round =>
      obtain ⟨i, j, mix, rfl, rfl, HMx, hrow, hkw⟩ := hrel
      have hij := HMx.out.lt
      have hjl := HMx.out.le
      by_cases hlt : j < l.length
      · obtain ⟨hjm, hmj⟩ := HMx.out.get hlt
        obtain ⟨q0, q1⟩ := rowW_get mix j hjm
        rw [hmj] at q0 q1
        have hc0 := row_cell hrow q0
        have hc1 := row_cell hrow q1
        have hgr : g < wr.heap.size := Nat.lt_of_lt_of_le hgw hkw.size
        have hb1 : (0 : Int) ≤ j := by omega
        have hb2 : (j : Int) < l.length := by omega
        have hi1 : (0 : Int) ≤ i := by omega
        have hi2 : (i : Int) < l.length := by omega
        have HC := hid (HU.out l[j])
        have hbx := heap_alloc_new wr (.cells #[.int .i64 l[j].1, .int .i64 l[j].2] 27 (0, 0))
        cases hp2 : pr l[j]
        · have HM2 := hid (HMx.out.put hlt hp2)
          rw [hp2] at HC
          clear hp2 q0 q1
          have him : i < mix.length := by omega
          obtain ⟨z0, z1⟩ := rowW_get mix i him
          clear hmj
          go_wp2_with (go_at_call 33; refine (HC.out _).mono ?_; rintro e w2 ⟨rfl, hk2⟩; have hrow2 := row_kept (row_kept hrow ((Kept.refl [] wr).alloc (.cells #[.int .i64 l[j].1, .int .i64 l[j].2] 27 (0, 0))) (by simp)) hk2 (by simp); have d0 := row_cell hrow2 z0; have d1 := row_cell hrow2 z1; have fz0 := hrow2.frozenAt (i * 2); have fz1 := hrow2.frozenAt (i * 2 + 1); have hb2' := hk2.at hbx (by simp); have b0 := cell_at hb2' 0; have b1 := cell_at hb2' 1; simp at b0 b1)
          go_roundw
          case rel =>
            have hr2 := ((hrow2.stored (i * 2) (.int .i64 l[j].1)).1.stored (i * 2 + 1) (.int .i64 l[j].2)).1
            rw [← rowW_set mix i him] at hr2
            exact ⟨i + 1, j + 1, _, by go_num, by go_num, HM2, hr2, ((((hkw.alloc _).step hk2 (by simp)).setCell (.inl (by simp)) _).setCell (.inl (by simp)) _)⟩
          case measure => simp [intOf]; omega
        · have HM2 := hid (HMx.out.skip hlt hp2)
          rw [hp2] at HC
          clear hp2
          go_wp2_with (go_at_call 33; refine (HC.out _).mono ?_; rintro e w2 ⟨rfl, hk2⟩; have hb2' := hk2.at hbx (by simp); have b0 := cell_at hb2' 0; have b1 := cell_at hb2' 1; simp at b0 b1)
          go_roundw
          case rel => exact ⟨i, j + 1, mix, rfl, by go_num, HM2, row_kept (row_kept hrow ((Kept.refl [] wr).alloc _) (by simp)) hk2 (by simp), (hkw.alloc _).step hk2 (by simp)⟩
          case measure => simp [intOf]; omega
      · obtain rfl : j = l.length := by omega
        obtain ⟨g', cur, e, hg', _, _, hcs, htk⟩ := row_some hrow (by omega)
        injection e with e; injection e with e
        subst e
        have hfr := HMx.out.front
        rw [List.take_length] at hfr
        have hlen2 : (delP pr l).length = i := by rw [← hfr]; simp; have := HMx.out.len; omega
        have hcl := fun ty => run_clear_own (P := Tryd.prog) wr 32 27 ty (.agg #[.int .i64 0, .int .i64 0]) Tryd.underlying32 (fun _ => by kernel_rfl) (by decide) (by decide) g (i * 2) (l.length - i) (cap - i) (by omega) cur hg' (by rw [hcs]; simp [Value.cells]; omega)
        have hi1 : (0 : Int) ≤ i := by omega
        have hi2 : (i : Int) ≤ l.length := by omega
        have hi3 : (l.length : Int) ≤ cap := by omega
        have hi4 : (i : Int) ≤ cap := by omega
        have HF := hid hfr
        have HL2 := hid hlen2
        have HT := hid htk
        have HCS := hid hcs
        clear hfr hlen2 htk hcs
        go_wp2_with fail
        go_ret
        rw [HL2.out]
        refine ⟨some ⟨g, 0, none⟩, cap, rfl, ?_⟩
        have := row_cleared encWOk (i := i) (n := l.length) (rest := (Builtin.zeroCells (Value.agg #[.int .i64 0, .int .i64 0]).cells (l.length - i)).toList ++ cur.toList.drop (i * 2 + (l.length - i) * 2)) rfl hg' HCS.out HT.out (by omega) hncap (by unfold maxLen; omega) HF.out HL2.out (by simp [Builtin.zeroCells, HCS.out, Value.cells]; omega) hk0 hkw hgn
        simpa [Value.cells] using this
end Go.Proofs.YtjjmcmchcmfgnaaDoor

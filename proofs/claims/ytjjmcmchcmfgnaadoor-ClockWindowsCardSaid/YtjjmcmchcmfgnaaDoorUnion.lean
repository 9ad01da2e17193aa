/- Contract: Union: the least list. -/
import Derived.Test.YtjjmcmchcmfgnaaDoorSortW
namespace Go.Proofs.YtjjmcmchcmfgnaaDoor
open Go.RowKit

/-- What Union returns. -/
def Unioned (l : List Win) (w : World) (e : Ending) (w' : World) : Prop := ∃ a' cap' U, e = .returned (.slice a' U.length cap') ∧ OwnW w w' a' cap' U ∧ Least l U
theorem row_last (P : List Win) (y : Win) (v : Int) : (rowV encW (P ++ [y])).set (P.length * 2 + 1) (.int .i64 v) = rowV encW (P ++ [(y.1, v)]) := by
  rw [rowV_app, rowV_app, List.set_append_right _ _ (by rw [rowV_len encWOk]; omega), rowV_len encWOk, show P.length * 2 + 1 - P.length * 2 = 1 by omega]
  rfl
theorem last_len (P : List Win) (y z : Win) : (P ++ [y]).length = (P ++ [z]).length := by simp
theorem snoc_of {l : List Win} (h : l ≠ []) : ∃ P y, l = P ++ [y] := ⟨l.dropLast, l.getLast h, (List.dropLast_concat_getLast h).symm⟩
set_option maxHeartbeats 4000000 in
set_option maxRecDepth 100000 in
theorem union_any {w : World} {a : Option Addr} {cap : Nat} {l : List Win} (h : WinsAt w a l) (hl : l.length ≤ 100000) :
    Calls Tryd.prog 23 #[.slice a l.length cap] w (Unioned l w) := by
  have HC := hid (clone_any (cap := cap) h hl)
  have HD := hid (fun (w1 : World) (a1 : Option Addr) (c1 : Nat) (o1 : OwnW w w1 a1 c1 l) => delete_any o1 hl)
  have hfl : (delP voidB l).length ≤ l.length := delP_le _ _
  have HS := hid (fun (w1 : World) (a1 : Option Addr) (c1 : Nat) (o1 : OwnW w w1 a1 c1 (delP voidB l)) => sort_any o1 (by omega))
  have hfull := hid (delP_void l)
  generalize delP voidB l = D at *
  go_enter Tryd.func23, Tryd.ntmps23
  go_wp2_with (first
    | (go_at_call 32; refine HC.out.mono ?_; rintro _ w1 ⟨a1, c1, rfl, o1⟩)
    | (go_at_call 31; refine (HD.out _ _ _ o1).mono ?_; rintro _ w2 ⟨a2, c2, rfl, o2⟩)
    | (go_at_call 34; refine (HS.out _ _ _ o2).mono ?_; rintro _ w3 ⟨rfl, m, o3, hm, hasc, hmem⟩))
  have HSo : Hid (Sorted l m) := hid ⟨hasc, fun x => by rw [hmem x, hfull.out], by omega⟩
  clear hasc hmem hfull HC HD HS o1 o2 h
  rw [← hm]
  have hml : m.length ≤ 100000 := by omega
  have hk3 := o3.kept
  have hs3 := o3.seq encWOk
  clear hm hfl o3
  go_loopw [4, 15] (fun ov iv wr => ∃ (k : Nat) (O : List Win) (a' : Option Addr) (cap' : Nat), k ≤ m.length ∧ iv = .int .i64 (k : Int) ∧ ov = .slice a' O.length cap' ∧ OwnW w3 wr a' cap' O ∧ Hid (MInv m k O)) (fun _ iv _ => m.length - (intOf iv).toNat)
  case atStart => exact ⟨0, [], none, 0, Nat.zero_le _, rfl, rfl, OwnL.start _, hid (MInv.init m)⟩
  case round =>
    obtain ⟨k, O, a', cap', hk, rfl, rfl, ho, HM⟩ := hrel
    have hOk := HM.out.len
    by_cases hlt : k < m.length
    · obtain ⟨b, off, ea, hb, hc0, hc1⟩ := WinsAt.get (SeqAt.kept hs3 CEnc.lasts ho.kept (by simp)) hlt
      subst ea
      have hb1 : (0 : Int) ≤ k := by omega
      have hb2 : (k : Int) < m.length := by omega
      have hF := HSo.out.full hlt
      by_cases hO : O = []
      · have HN := hid (HM.out.push HSo.out.1 hlt hF (.inl hO))
        subst hO
        obtain ⟨N, HE⟩ : ∃ N, Hid (N = [] ++ [m[k]]) := ⟨_, hid rfl⟩
        rw [← HE.out] at HN
        have hd : decide ((0 : Int) ≤ -1) = false := rfl
        go_wp2_with fail
        go_quiet (fail)
        have hbx := heap_alloc_new wr (.cells #[.int .i64 m[k].1, .int .i64 m[k].2] 27 (0, 0))
        have hoa := ho.later (((Kept.refl [] wr).alloc (.cells #[.int .i64 m[k].1, .int .i64 m[k].2] 27 (0, 0))).drewN nq)
        obtain ⟨wx, hwx⟩ : ∃ wx, (wr.alloc (.cells #[.int .i64 m[k].1, .int .i64 m[k].2] 27 (0, 0))).drewN nq = wx := ⟨_, rfl⟩
        have hbx2 : wx.heap[wr.heap.size]? = some (.cells #[.int .i64 m[k].1, .int .i64 m[k].2] 27 (0, 0)) := by rw [← hwx]; exact hbx
        rw [hwx] at hoa ⊢
        clear hwx hbx
        have b0 := cell_at hbx2 0
        have b1 := cell_at hbx2 1
        simp at b0 b1
        clear ho HM
        go_wp2_with (at_builtin; refine wp_appL encWOk Tryd.underlying32 HE.out (hoa.later ((Kept.refl [] wx).alloc _)) (list_box encWOk (heap_alloc_new wx _) rfl (by simp [maxLen])) (by simp) rfl _ _ rfl rfl rfl rfl rfl ?_; intro a2 cap2 w2 ho2 hk2 hfp2)
        go_roundw
        case rel => exact ⟨k + 1, N, a2, cap2, hlt, by go_num, rfl, ho2, HN⟩
        case measure => simp [intOf]; omega
      · obtain ⟨P, y, rfl⟩ := snoc_of hO
        clear hO
        have hlen1 : (P ++ [y]).length = P.length + 1 := by simp
        obtain ⟨g, cur, rfl, hg, hncap, hcm, _⟩ := row_some ho.row (by simp)
        have hyc := row_cell ho.row (rowW_get (P ++ [y]) P.length (by simp)).2
        rw [List.getElem_concat_length rfl] at hyc
        have hyA : (wr.alloc (.cells #[.int .i64 m[k].1, .int .i64 m[k].2] 27 (0, 0))).cell? ⟨g, P.length * 2 + 1, none⟩ = some (.int .i64 y.2) := by
          rw [((Kept.refl [] wr).alloc _).cell (by exact lt_of_heap hg) (by simp)]; exact hyc
        have hd : decide ((0 : Int) ≤ (P.length : Int)) = true := by simp
        by_cases hj : m[k].1 ≤ y.2
        · have HN := hid (HM.out.join hlt hF hj)
          have hdj : decide (m[k].1 ≤ y.2) = true := by simpa using hj
          go_wp2_with fail
          go_quiet (fail)
          have hbx := heap_alloc_new wr (.cells #[.int .i64 m[k].1, .int .i64 m[k].2] 27 (0, 0))
          have hoa := ho.later (((Kept.refl [] wr).alloc (.cells #[.int .i64 m[k].1, .int .i64 m[k].2] 27 (0, 0))).drewN nq)
          obtain ⟨wx, hwx⟩ : ∃ wx, (wr.alloc (.cells #[.int .i64 m[k].1, .int .i64 m[k].2] 27 (0, 0))).drewN nq = wx := ⟨_, rfl⟩
          have hbx2 : wx.heap[wr.heap.size]? = some (.cells #[.int .i64 m[k].1, .int .i64 m[k].2] 27 (0, 0)) := by rw [← hwx]; exact hbx
          have hyx : wx.cell? ⟨g, P.length * 2 + 1, none⟩ = some (.int .i64 y.2) := by rw [← hwx]; exact hyA
          rw [hwx] at hoa ⊢
          clear hwx hbx hyA hyc hc0 hc1
          have b0 := cell_at hbx2 0
          have b1 := cell_at hbx2 1
          simp at b0 b1
          have fz := hoa.row.frozenAt (P.length * 2 + 1)
          clear ho HM
          go_wp2_with fail
          go_region
          have hr2 := (hoa.row.stored (P.length * 2 + 1) (.int .i64 (max y.2 m[k].2))).1
          rw [row_last] at hr2
          have ho2 : OwnW w3 (wx.setCell ⟨g, P.length * 2 + 1, none⟩ (.int .i64 (max y.2 m[k].2))).drew (some ⟨g, 0, none⟩) cap' (P ++ [(y.1, max y.2 m[k].2)]) :=
            ⟨by rw [last_len P y (y.1, max y.2 m[k].2)] at hr2; exact hr2, hoa.kept.trans (((Kept.refl [g] wx).setCell (.inl (by simp)) _).drew) (fun i hi => .inr (hoa.new i (by simpa [fp] using hi))), hoa.new⟩
          clear hr2 hoa hyx b0 b1 fz hbx2
          generalize (wx.setCell ⟨g, P.length * 2 + 1, none⟩ (.int .i64 (max y.2 m[k].2))).drew = wy at *
          go_wp2_with fail
          go_roundw
          case rel => exact ⟨k + 1, P ++ [(y.1, max y.2 m[k].2)], some ⟨g, 0, none⟩, cap', hlt, by go_num, by rw [last_len P y (y.1, max y.2 m[k].2)], ho2, HN⟩
          case measure => simp [intOf]; omega
        · have HN := hid (HM.out.push HSo.out.1 hlt hF (.inr ⟨P, y, rfl, by omega⟩))
          obtain ⟨N, HE⟩ : ∃ N, Hid (N = (P ++ [y]) ++ [m[k]]) := ⟨_, hid rfl⟩
          rw [← HE.out] at HN
          have hdj : decide (m[k].1 ≤ y.2) = false := by simpa using hj
          go_wp2_with fail
          go_quiet (fail)
          have hbx := heap_alloc_new wr (.cells #[.int .i64 m[k].1, .int .i64 m[k].2] 27 (0, 0))
          have hoa := ho.later (((Kept.refl [] wr).alloc (.cells #[.int .i64 m[k].1, .int .i64 m[k].2] 27 (0, 0))).drewN nq)
          obtain ⟨wx, hwx⟩ : ∃ wx, (wr.alloc (.cells #[.int .i64 m[k].1, .int .i64 m[k].2] 27 (0, 0))).drewN nq = wx := ⟨_, rfl⟩
          have hbx2 : wx.heap[wr.heap.size]? = some (.cells #[.int .i64 m[k].1, .int .i64 m[k].2] 27 (0, 0)) := by rw [← hwx]; exact hbx
          rw [hwx] at hoa ⊢
          clear hwx hbx
          have b0 := cell_at hbx2 0
          have b1 := cell_at hbx2 1
          simp at b0 b1
          clear ho HM
          go_wp2_with (at_builtin; refine wp_appL encWOk Tryd.underlying32 HE.out (hoa.later ((Kept.refl [] wx).alloc _)) (list_box encWOk (heap_alloc_new wx _) rfl (by simp [maxLen])) (by have h1 := hlen1; simp only [List.length_cons, List.length_nil]; omega) rfl _ _ rfl rfl hlen1.symm rfl rfl ?_; intro a2 cap2 w2 ho2 hk2 hfp2)
          go_roundw
          case rel => exact ⟨k + 1, N, a2, cap2, hlt, by go_num, rfl, ho2, HN⟩
          case measure => simp [intOf]; omega
    · obtain rfl : k = m.length := by omega
      have HL := hid (HM.out.least HSo.out.2.1 HSo.out.2.2)
      go_wp2_with fail
      go_ret
      exact ⟨a', cap', O, rfl, ho.rebase hk3, HL.out⟩
end Go.Proofs.YtjjmcmchcmfgnaaDoor

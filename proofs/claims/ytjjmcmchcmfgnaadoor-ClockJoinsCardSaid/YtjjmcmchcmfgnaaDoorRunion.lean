/- Contracts: insert and Union of the reference. -/
import Derived.Test.YtjjmcmchcmfgnaaDoorUnion
namespace Go.Proofs.YtjjmcmchcmfgnaaDoor
open Go.RowKit

/-- All before k begin not later. -/
def LeTo (l : List Win) (x : Win) (k : Nat) : Prop := ∀ j (_ : j < k) (hj : j < l.length), l[j].1 ≤ x.1
theorem LeTo.next {l : List Win} {x : Win} {k : Nat} (h : LeTo l x k) (hk : k < l.length) (hx : l[k].1 ≤ x.1) : LeTo l x (k + 1) := by
  intro j hj hjl
  by_cases e : j = k
  · subst e; exact hx
  · exact h j (by omega) hjl
theorem insW_at {l : List Win} {x : Win} {k : Nat} (h : LeTo l x k) (hk : k ≤ l.length) (hs : ∀ hj : k < l.length, x.1 < l[k].1) : insW l x = l.take k ++ [x] ++ l.drop k := by
  have hl : l = l.take k ++ l.drop k := (List.take_append_drop k l).symm
  have h1 : ∀ y ∈ l.take k, (fun y : Win => decide (y.1 ≤ x.1)) y = true := by
    intro y hy
    obtain ⟨j, hj, rfl⟩ := List.getElem_of_mem hy
    rw [List.length_take] at hj
    simpa using h j (by omega) (by omega)
  have h2 : (l.drop k).takeWhile (fun y => decide (y.1 ≤ x.1)) = [] ∧ (l.drop k).dropWhile (fun y => decide (y.1 ≤ x.1)) = l.drop k := by
    rcases Nat.lt_or_ge k l.length with h3 | h3
    · have := hs h3
      have hd : decide (l[k].1 ≤ x.1) = false := by simp; omega
      rw [List.drop_eq_getElem_cons h3, List.takeWhile_cons, List.dropWhile_cons]
      simp only [hd]
      exact ⟨rfl, rfl⟩
    · rw [List.drop_eq_nil_of_le h3]; simp
  unfold insW
  conv => lhs; rw [hl]
  rw [List.takeWhile_append_of_pos h1, List.dropWhile_append_of_pos h1, h2.1, h2.2]
  simp
theorem wins_take0 {w : World} {a : Option Addr} {l : List Win} (h : WinsAt w a l) (k : Nat) : WinsAt w a (l.take k) := by
  refine ⟨?_, Nat.le_trans (by simp; omega) h.few⟩
  rcases h.cells with rfl | ⟨b, off, e, hb, hc⟩
  · exact .inl (by simp)
  · exact .inr ⟨b, off, e, hb, fun i hi => by rw [List.getElem_take]; exact hc i (by simp at hi; omega)⟩
set_option maxHeartbeats 4000000 in
theorem insert_any {w : World} {a : Option Addr} {cap : Nat} {l : List Win} (h : WinsAt w a l) (hc : l.length ≤ cap) (hl : l.length ≤ 100000) (x : Win) :
    Calls Tryd.prog 37 #[.slice a l.length cap, .agg #[.int .i64 x.1, .int .i64 x.2]] w fun e w' => ∃ a' cap', e = .returned (.slice a' (insW l x).length cap') ∧ OwnW w w' a' cap' (insW l x) := by
  have hbx : ∀ n, ((w.alloc (.cells #[.int .i64 x.1, .int .i64 x.2] 27 (0, 0))).drewN n).heap[w.heap.size]? = some (.cells #[.int .i64 x.1, .int .i64 x.2] 27 (0, 0)) := fun n => heap_alloc_new w _
  go_enter Tryd.func37, Tryd.ntmps37
  go_wp2_with fail
  go_loopw [5] (fun i wr => ∃ (k n : Nat), k ≤ l.length ∧ i = .int .i64 (k : Int) ∧ wr = (w.alloc (.cells #[.int .i64 x.1, .int .i64 x.2] 27 (0, 0))).drewN n ∧ LeTo l x k) (fun i _ => l.length - (intOf i).toNat)
  case atStart => exact ⟨0, 0, Nat.zero_le _, rfl, rfl, fun j hj => by omega⟩
  case round =>
    obtain ⟨k, n, hk, rfl, rfl, hT⟩ := hrel
    have hk0 : (0 : Int) ≤ k := by omega
    by_cases hlt : k < l.length
    · obtain ⟨b, off, rfl, hb, hc0, hc1⟩ := h.get hlt
      have hk2 : (k : Int) < l.length := by omega
      have hcA : (w.alloc (.cells #[.int .i64 x.1, .int .i64 x.2] 27 (0, 0))).cell? ⟨b, off + k * 2, none⟩ = some (.int .i64 l[k].1) := by
        rw [((Kept.refl [] w).alloc _).cell (by exact hb) (by simp)]; exact hc0
      have hd : decide ((k : Int) < (l.length : Int)) = true := by simp; omega
      by_cases hx : l[k].1 ≤ x.1
      · have hN := hid (hT.next hlt hx)
        clear hT
        go_wp2_with fail
        go_quiet (fail)
        go_wp2_with fail
        go_roundw
        case rel => exact ⟨k + 1, _, hlt, by go_num, rfl, hN.out⟩
        case measure => simp [intOf]; omega
      · have hE := hid (insW_at hT hk (fun _ => by omega))
        clear hT
        go_wp2_with fail
        go_quiet (fail)
        generalize some (⟨b, off, none⟩ : Addr) = a at *
        clear hcA hc0 hb hc1
        generalize hwx : World.drewN (World.drewN (w.alloc (.cells #[.int .i64 x.1, .int .i64 x.2] 27 (0, 0))) n) nq = wx at *
        have kx : Kept [] w wx := by rw [← hwx]; exact (((Kept.refl [] w).alloc _).drewN n).drewN nq
        have hb3 : wx.heap[w.heap.size]? = some (.cells #[.int .i64 x.1, .int .i64 x.2] 27 (0, 0)) := by rw [← hwx]; exact hbx n
        clear hwx hbx
        have hsx := SeqAt.kept h CEnc.lasts kx (by simp)
        have hT1 := hid (fun (W : World) (q : Kept [] wx W) => wins_take0 (SeqAt.kept hsx CEnc.lasts q (by simp)) k)
        have hT2 := hid (fun (W : World) (q : Kept [] wx W) => ListAt.drop (SeqAt.kept hsx CEnc.lasts q (by simp)) hk hc)
        rw [if_neg (show ¬ cap = k by omega)] at hT2
        have hlk := hid (show k = (l.take k).length by rw [List.length_take]; omega)
        have hld := hid (show l.length - k = (l.drop k).length by rw [List.length_drop])
        obtain ⟨L1, H1⟩ : ∃ L1, Hid (L1 = [] ++ l.take k) := ⟨_, hid rfl⟩
        obtain ⟨L2, H2⟩ : ∃ L2, Hid (L2 = L1 ++ [x]) := ⟨_, hid rfl⟩
        obtain ⟨L3, H3⟩ : ∃ L3, Hid (L3 = L2 ++ l.drop k) := ⟨_, hid rfl⟩
        have hE3 := hid (show insW l x = L3 by rw [hE.out, H3.out, H2.out, H1.out]; simp)
        have n1 : L1.length = k := by rw [H1.out]; simp; omega
        have n2 : L2.length = k + 1 := by rw [H2.out]; simp [n1]
        have hk2i : (k : Int) ≤ l.length := by omega
        have hk3i : (k : Int) ≤ cap := by omega
        have hc2i : (l.length : Int) ≤ cap := by omega
        have z0 : True := trivial
        go_wp2_with (first
          | (at_builtin; have _t := z2; clear _t z2; refine wp_appL encWOk Tryd.underlying32 H3.out o2 (hT2.out w2 o2.kept) (by simp; omega) rfl _ _ rfl rfl n2.symm rfl hld.out ?_; intro a3 c3 w3 o3 q3 f3)
          | (at_builtin; have _t := z1; clear _t z1; refine wp_appL encWOk Tryd.underlying32 H2.out (o1.later ((Kept.refl [] w1).alloc _)) (list_box encWOk (heap_alloc_new w1 _) rfl (by simp [maxLen])) (by simp; omega) rfl _ _ rfl rfl n1.symm rfl rfl ?_; intro a2 c2 w2 o2 q2 f2; have z2 : True := trivial)
          | (at_builtin; have _t := z0; clear _t z0; refine wp_appL encWOk Tryd.underlying32 H1.out (OwnL.start wx) (hT1.out wx (Kept.refl _ _)) (by simp; omega) rfl _ _ rfl rfl rfl rfl hlk.out ?_; intro a1 c1 w1 o1 q1 f1; have hb1 := o1.kept.at hb3 (by simp); have b0 := cell_at hb1 0; have b1 := cell_at hb1 1; simp at b0 b1; have z1 : True := trivial))
        go_ret
        rw [hE3.out]
        exact ⟨a3, c3, rfl, o3.rebase kx⟩
    · have hE := hid (insW_at hT hk (fun hj => absurd hj hlt))
      clear hT
      have hd : decide ((k : Int) < (l.length : Int)) = false := by simp; omega
      go_wp2_with fail
      go_quiet (fail)
      generalize hwx : World.drewN (World.drewN (w.alloc (.cells #[.int .i64 x.1, .int .i64 x.2] 27 (0, 0))) n) nq = wx at *
      have kx : Kept [] w wx := by rw [← hwx]; exact (((Kept.refl [] w).alloc _).drewN n).drewN nq
      have hb3 : wx.heap[w.heap.size]? = some (.cells #[.int .i64 x.1, .int .i64 x.2] 27 (0, 0)) := by rw [← hwx]; exact hbx n
      clear hwx hbx
      have hsx := SeqAt.kept h CEnc.lasts kx (by simp)
      have hT1 := hid (fun (W : World) (q : Kept [] wx W) => wins_take0 (SeqAt.kept hsx CEnc.lasts q (by simp)) k)
      have hT2 := hid (fun (W : World) (_ : Kept [] wx W) (b : Option Addr) => (show WinsAt W b (l.drop k) by rw [List.drop_eq_nil_of_le (by omega)]; exact list_nil W b))
      have hlk := hid (show k = (l.take k).length by rw [List.length_take]; omega)
      have hld := hid (show l.length - k = (l.drop k).length by rw [List.length_drop])
      obtain ⟨L1, H1⟩ : ∃ L1, Hid (L1 = [] ++ l.take k) := ⟨_, hid rfl⟩
      obtain ⟨L2, H2⟩ : ∃ L2, Hid (L2 = L1 ++ [x]) := ⟨_, hid rfl⟩
      obtain ⟨L3, H3⟩ : ∃ L3, Hid (L3 = L2 ++ l.drop k) := ⟨_, hid rfl⟩
      have hE3 := hid (show insW l x = L3 by rw [hE.out, H3.out, H2.out, H1.out]; simp)
      have n1 : L1.length = k := by rw [H1.out]; simp; omega
      have n2 : L2.length = k + 1 := by rw [H2.out]; simp [n1]
      have hk2i : (k : Int) ≤ l.length := by omega
      have hk3i : (k : Int) ≤ cap := by omega
      have hc2i : (l.length : Int) ≤ cap := by omega
      have z0 : True := trivial
      go_wp2_with (first
        | (at_builtin; have _t := z2; clear _t z2; refine wp_appL encWOk Tryd.underlying32 H3.out o2 (hT2.out w2 o2.kept _) (by simp; omega) rfl _ _ rfl rfl n2.symm rfl hld.out ?_; intro a3 c3 w3 o3 q3 f3)
        | (at_builtin; have _t := z1; clear _t z1; refine wp_appL encWOk Tryd.underlying32 H2.out (o1.later ((Kept.refl [] w1).alloc _)) (list_box encWOk (heap_alloc_new w1 _) rfl (by simp [maxLen])) (by simp; omega) rfl _ _ rfl rfl n1.symm rfl rfl ?_; intro a2 c2 w2 o2 q2 f2; have z2 : True := trivial)
        | (at_builtin; have _t := z0; clear _t z0; refine wp_appL encWOk Tryd.underlying32 H1.out (OwnL.start wx) (hT1.out wx (Kept.refl _ _)) (by simp; omega) rfl _ _ rfl rfl rfl rfl hlk.out ?_; intro a1 c1 w1 o1 q1 f1; have hb1 := o1.kept.at hb3 (by simp); have b0 := cell_at hb1 0; have b1 := cell_at hb1 1; simp at b0 b1; have z1 : True := trivial))
      all_goals (
        go_ret
        rw [hE3.out]
        exact ⟨a3, c3, rfl, o3.rebase kx⟩)
theorem IInv.le {l A : List Win} {k : Nat} (h : IInv l k A) : A.length ≤ k := h.len
set_option maxHeartbeats 4000000 in
set_option maxRecDepth 100000 in
theorem runion_any {w : World} {a : Option Addr} {cap : Nat} {l : List Win} (h : WinsAt w a l) (hl : l.length ≤ 90000) :
    Calls Tryd.prog 24 #[.slice a l.length cap] w (Unioned l w) := by
  go_enter Tryd.func24, Tryd.ntmps24
  go_wp2_with fail
  go_loopw [3, 5] (fun ov iv wr => ∃ (k : Nat) (A : List Win) (a' : Option Addr) (cap' : Nat), k ≤ l.length ∧ iv = .int .i64 (k : Int) ∧ ov = .slice a' A.length cap' ∧ OwnW w wr a' cap' A ∧ Hid (IInv l k A)) (fun _ iv _ => l.length - (intOf iv).toNat)
  case atStart => exact ⟨0, [], none, 0, Nat.zero_le _, rfl, rfl, OwnL.start _, hid (IInv.init l)⟩
  case round =>
    obtain ⟨k, A, a', cap', hk, rfl, rfl, ho, HM⟩ := hrel
    have hAk := HM.out.len
    by_cases hlt : k < l.length
    · obtain ⟨b, off, ea, hb, hc0, hc1⟩ := WinsAt.get (SeqAt.kept h CEnc.lasts ho.kept (by simp)) hlt
      subst ea
      have hb1 : (0 : Int) ≤ k := by omega
      have hb2 : (k : Int) < l.length := by omega
      by_cases hF : l[k].1 < l[k].2
      · have HN := hid (HM.out.yes hlt hF)
        have HI := hid (fun (W : World) (q : Kept [] wr W) => insert_any (SeqAt.kept (ho.seq encWOk) CEnc.lasts q (by simp)) ho.cap.1 (by omega) l[k])
        clear HM
        go_wp2_with fail
        go_quiet (fail)
        have kq := (Kept.refl [] wr).drewN nq
        go_wp2_with (go_at_call 37; refine (HI.out _ kq).mono ?_; rintro _ w2 ⟨a2, c2, rfl, o2⟩)
        have o3 := o2.rebase (ho.kept.step kq (by simp))
        go_roundw
        case rel => exact ⟨k + 1, _, a2, c2, hlt, by go_num, rfl, o3, HN⟩
        case measure => simp [intOf]; omega
      · have HN := hid (HM.out.no hlt hF)
        clear HM
        go_wp2_with fail
        go_quiet (fail)
        have o3 := ho.later ((Kept.refl [] wr).drewN nq)
        go_wp2_with fail
        go_roundw
        case rel => exact ⟨k + 1, A, a', cap', hlt, by go_num, rfl, o3, HN⟩
        case measure => simp [intOf]; omega
    · obtain rfl : k = l.length := by omega
      have HSo := hid HM.out.sorted
      have hml : A.length ≤ 100000 := by omega
      have hk3 := ho.kept
      have hs3 := ho.seq encWOk
      clear HM h hAk
      generalize A = m at *
      have hxd : decide ((l.length : Int) < (l.length : Int)) = false := by simp
      go_wp2_with fail
      clear hxd
      clear ho hk hlt
      generalize hwr : wr = w3 at *
      go_loopw [4, 6] (fun ov iv wr => ∃ (k : Nat) (O : List Win) (aO : Option Addr) (cO : Nat), k ≤ m.length ∧ iv = .int .i64 (k : Int) ∧ ov = .slice aO O.length cO ∧ OwnW w3 wr aO cO O ∧ Hid (MInv m k O)) (fun _ iv _ => m.length - (intOf iv).toNat)
      case atStart => exact ⟨0, [], none, 0, Nat.zero_le _, rfl, rfl, OwnL.start _, hid (MInv.init m)⟩
      case round =>
        obtain ⟨k, O, aO, cO, hk, rfl, rfl, ho, HM⟩ := hrel
        have hOk := HM.out.len
        by_cases hlt : k < m.length
        · obtain ⟨b, off, ea, hb, hc0, hc1⟩ := WinsAt.get (SeqAt.kept hs3 CEnc.lasts ho.kept (by simp)) hlt
          subst ea
          have hb1 : (0 : Int) ≤ k := by omega
          have hb2 : (k : Int) < m.length := by omega
          have hF := HSo.out.full hlt
          by_cases hO : O = []
          · have HN := hid (HM.out.push HSo.out.1 hlt hF (.inl hO))
            subst hO
            obtain ⟨N, HE⟩ : ∃ N, Hid (N = [] ++ [m[k]]) := ⟨_, hid rfl⟩
            rw [← HE.out] at HN
            have hd : decide ((0 : Int) ≤ -1) = false := rfl
            go_wp2_with fail
            go_quiet (fail)
            have hoa := ho.later ((Kept.refl [] wr).drewN nq)
            clear ho HM
            go_wp2_with (at_builtin; refine wp_appL encWOk Tryd.underlying32 HE.out (hoa.later ((Kept.refl [] _).alloc _)) (list_box encWOk (heap_alloc_new _ _) rfl (by simp [maxLen])) (by simp) rfl _ _ rfl rfl rfl rfl rfl ?_; intro a2 cap2 w2 ho2 hk2 hfp2)
            go_roundw
            case rel => exact ⟨k + 1, N, a2, cap2, hlt, by go_num, rfl, ho2, HN⟩
            case measure => simp [intOf]; omega
          · obtain ⟨P, y, rfl⟩ := snoc_of hO
            clear hO
            have hlen1 : (P ++ [y]).length = P.length + 1 := by simp
            obtain ⟨g, cur, rfl, hg, hncap, hcm, _⟩ := row_some ho.row (by simp)
            have hyc := row_cell ho.row (rowW_get (P ++ [y]) P.length (by simp)).2
            rw [List.getElem_concat_length rfl] at hyc
            have hd : decide ((0 : Int) ≤ (P.length : Int)) = true := by simp
            by_cases hj : m[k].1 ≤ y.2
            · have HN := hid (HM.out.join hlt hF hj)
              have hdj : decide (m[k].1 ≤ y.2) = true := by simpa using hj
              go_wp2_with fail
              go_quiet (fail)
              have hoa := ho.later ((Kept.refl [] wr).drewN nq)
              obtain ⟨wx, hwx⟩ : ∃ wx, wr.drewN nq = wx := ⟨_, rfl⟩
              have hyx : wx.cell? ⟨g, P.length * 2 + 1, none⟩ = some (.int .i64 y.2) := by rw [← hwx]; exact hyc
              have hx1 : wx.cell? ⟨b, off + k * 2 + 1, none⟩ = some (.int .i64 m[k].2) := by rw [← hwx]; exact hc1
              rw [hwx] at hoa ⊢
              clear hwx hyc hc0 hc1
              have fz := hoa.row.frozenAt (P.length * 2 + 1)
              clear ho HM
              go_wp2_with fail
              go_region
              have hr2 := (hoa.row.stored (P.length * 2 + 1) (.int .i64 (max y.2 m[k].2))).1
              rw [row_last] at hr2
              have ho2 : OwnW w3 (wx.setCell ⟨g, P.length * 2 + 1, none⟩ (.int .i64 (max y.2 m[k].2))).drew (some ⟨g, 0, none⟩) cO (P ++ [(y.1, max y.2 m[k].2)]) :=
                ⟨by rw [last_len P y (y.1, max y.2 m[k].2)] at hr2; exact hr2, hoa.kept.trans (((Kept.refl [g] wx).setCell (.inl (by simp)) _).drew) (fun i hi => .inr (hoa.new i (by simpa [fp] using hi))), hoa.new⟩
              clear hr2 hoa hyx hx1 fz
              generalize (wx.setCell ⟨g, P.length * 2 + 1, none⟩ (.int .i64 (max y.2 m[k].2))).drew = wy at *
              go_wp2_with fail
              go_roundw
              case rel => exact ⟨k + 1, P ++ [(y.1, max y.2 m[k].2)], some ⟨g, 0, none⟩, cO, hlt, by go_num, by rw [last_len P y (y.1, max y.2 m[k].2)], ho2, HN⟩
              case measure => simp [intOf]; omega
            · have HN := hid (HM.out.push HSo.out.1 hlt hF (.inr ⟨P, y, rfl, by omega⟩))
              obtain ⟨N, HE⟩ : ∃ N, Hid (N = (P ++ [y]) ++ [m[k]]) := ⟨_, hid rfl⟩
              rw [← HE.out] at HN
              have hdj : decide (m[k].1 ≤ y.2) = false := by simpa using hj
              go_wp2_with fail
              go_quiet (fail)
              have hoa := ho.later ((Kept.refl [] wr).drewN nq)
              clear ho HM
              go_wp2_with (at_builtin; refine wp_appL encWOk Tryd.underlying32 HE.out (hoa.later ((Kept.refl [] _).alloc _)) (list_box encWOk (heap_alloc_new _ _) rfl (by simp [maxLen])) (by have h1 := hlen1; simp only [List.length_cons, List.length_nil]; omega) rfl _ _ rfl rfl hlen1.symm rfl rfl ?_; intro a2 cap2 w2 ho2 hk2 hfp2)
              go_roundw
              case rel => exact ⟨k + 1, N, a2, cap2, hlt, by go_num, rfl, ho2, HN⟩
              case measure => simp [intOf]; omega
        · obtain rfl : k = m.length := by omega
          have HL := hid (HM.out.least HSo.out.2.1 HSo.out.2.2)
          go_wp2_with fail
          go_ret
          exact ⟨aO, cO, O, rfl, ho.rebase hk3, HL.out⟩
end Go.Proofs.YtjjmcmchcmfgnaaDoor

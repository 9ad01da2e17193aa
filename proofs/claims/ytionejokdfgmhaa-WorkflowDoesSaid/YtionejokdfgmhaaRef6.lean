/- New and Cancel of the reference. -/
import Derived.Test.YtionejokdfgmhaaRef5
namespace Go.Proofs.Ytionejokdfgmhaa
open Go.RowKit Go.Maps

set_option maxHeartbeats 1000000 in
theorem rnew_any (w : World) :
    Calls Try.prog 12 #[] w fun e w' => ∃ qb, e = .returned (.pointer (some ⟨qb, 0, none⟩)) ∧ w.heap.size ≤ qb ∧ RefAt w' qb none 0 [] ∧ Kept [] w w' := by
  go_enter Try.func12, Try.ntmps12
  go_wp2_with fail
  go_ret
  refine ⟨w.heap.size, rfl, Nat.le_refl _, ⟨heap_alloc_new w _, World.ownsRow_nil _ _ _ _, by simp, by simp, by simp, List.Pairwise.nil⟩, (Kept.refl [] w).alloc _⟩

/-! ### Cancel -/
def keepE (u : Str) (e : Ent) : Bool := !(e.2.x.user == u)
theorem absR_cancel (Y : List Ent) (u : Str) : absR (Y.filter (keepE u)) = cancU (absR Y) u := by
  unfold absR cancU
  rw [List.filter_map]
  rfl
/-- The header has been turned to a new row of some of the entries. -/
theorem RefAt.turn {w w1 : World} {qb : Nat} {a a1 : Option Addr} {cap c1 : Nat} {Y : List Ent} (h : RefAt w qb a cap Y) {M : List Ent} (o : OwnL 75 11 encR w w1 a1 c1 M) (hs : M.Sublist Y) : RLeft w (w1.setCell ⟨qb, 0, none⟩ (.slice a1 M.length c1)) qb a Y (absR M) := by
  have h1 := h.keptN o.kept
  have kq : Kept [qb] w1 (w1.setCell ⟨qb, 0, none⟩ (.slice a1 M.length c1)) := (Kept.refl [qb] w1).setCell (.inl (by simp)) _
  have hqw : qb < w.heap.size := lt_of_heap h.blk
  have hne : ∀ e, EntL w1 e → ∀ j, j ∈ fp e.2.sa ∨ j ∈ fp e.2.aa → j ∉ [qb] := fun e he j hj hm => by
    obtain ⟨cur, t, hc, ht, ht2⟩ := he.blk j hj
    simp at hm
    subst hm
    rw [h1.blk] at hc
    injection hc with hc
    injection hc with _ hc _
    exact ht2 hc.symm
  refine ⟨a1, c1, M, ⟨heap_setCell_same _ _ 0 _ _ _ h1.blk, row_kept o.row kq (fun i hi hm => ?_), fun e he => ?_, Nat.le_trans hs.length_le h.few, fun e he => h.inv e (hs.subset he), ?_⟩, rfl, (o.kept.mono (T := qb :: fp a) (by simp)).step kq (fun j hj => by simp at hj; simp [hj]), fun j hj => ?_⟩
  · simp at hm; subst hm; have := o.new _ hi; omega
  · have hE := h1.each e (hs.subset he)
    exact ⟨hE.1.kept kq (fun j hj => hne e hE j (.inl hj)), hE.2.kept kq (fun j hj => hne e hE j (.inr hj))⟩
  · exact List.Pairwise.sublist (hs.map _) h.uniq
  · rcases rdom_mem.1 hj with e | e | ⟨e, he, hd⟩
    · exact .inl (rdom_mem.2 (.inl e))
    · exact .inr (o.new j e)
    · exact .inl (rdom_mem.2 (.inr (.inr ⟨e, hs.subset he, hd⟩)))

set_option maxHeartbeats 8000000 in
set_option maxRecDepth 100000 in
theorem rcancel_any {w : World} {qb : Nat} {a : Option Addr} {cap : Nat} {Y : List Ent} (h : RefAt w qb a cap Y) (u : ByteArray) :
    Calls Try.prog 34 #[.pointer (some ⟨qb, 0, none⟩), .string u] w fun e w' => e = .returned (.int .i64 (cancN (absR Y) u.data.toList)) ∧ RLeft w w' qb a Y (cancU (absR Y) u.data.toList) := by
  have hfew := h.few
  have HH := hid h
  have hEQ := hid (absR_cancel Y u.data.toList)
  obtain ⟨f, HF⟩ : ∃ f : Ent → Bool, Hid (f = keepE u.data.toList) := ⟨_, hid rfl⟩
  rw [← HF.out] at hEQ
  go_enter Try.func34, Try.ntmps34
  go_wp2_with fail
  go_loopw [5, 6] (fun v i wr => ∃ (k : Nat) (M : List Ent) (a1 : Option Addr) (c1 : Nat), k ≤ Y.length ∧ i = .int .i64 k ∧ v = .slice a1 M.length c1 ∧ M = (Y.take k).filter f ∧ OwnL 75 11 encR w wr a1 c1 M) (fun _ i _ => Y.length - (intOf i).toNat)
  case atStart => exact ⟨0, [], none, 0, Nat.zero_le _, rfl, rfl, rfl, OwnL.start w⟩
  case round =>
    obtain ⟨k, M, a1, c1, hk, rfl, rfl, hM, ho⟩ := hrel
    have HMM := hid hM
    have hml : M.length ≤ Y.length := by rw [hM]; exact Nat.le_trans (List.length_filter_le _ _) (by simp; omega)
    clear hM
    have hr := h.keptN ho.kept
    have c0 := hr.c0
    have HO := hid ho
    clear ho
    have hkb : k ≤ 256 := by omega
    by_cases hlt : k < Y.length
    · obtain ⟨g, cur, hga, hg, hcs, hnc, hc⟩ := hr.get hlt
      rw [hga] at c0
      have hb1 : (0 : Int) ≤ k := by omega
      have hb2 : (k : Int) < Y.length := by omega
      have HT := hid (List.take_succ_eq_append_getElem hlt)
      have HKP := hid (show f Y[k] = !(Y[k].2.x.user == u.data.toList) by rw [HF.out]; rfl)
      have HLT := hid hlt
      clear hr hg
      generalize Y[k] = y at *
      obtain ⟨d0, d1, d2, d3, d4, d5, d6, d7, d8, d9, d10⟩ := hc
      cases hp : (y.2.x.user == u.data.toList)
      · have HM2 := hid (show M ++ [y] = (Y.take (k + 1)).filter f by rw [HT.out, List.filter_append, ← HMM.out, List.filter_cons_of_pos (by rw [HKP.out, hp]; rfl)]; rfl)
        obtain ⟨M2, HM3⟩ : ∃ M2, Hid (M2 = M ++ [y]) := ⟨_, hid rfl⟩
        rw [← ByteArray.toList_eq] at hp
        go_wp2_with (at_builtin; refine wp_appL encROk Try.underlying63 HM3.out (HO.out.later ((Kept.refl [] wr).alloc _)) (list_box encROk (heap_alloc_new wr _) (by simp [rowV, encR, sV]) (by simp [maxLen])) (show M.length + 1 ≤ 1000000 by omega) rfl _ _ rfl rfl rfl rfl rfl ?_; intro a2 c2 w2 o2 k2 f2)
        go_roundw
        case rel => exact ⟨k + 1, M2, a2, c2, by have := HLT.out; omega, by go_num, rfl, by rw [HM3.out]; exact HM2.out, o2⟩
        case measure => simp [intOf]; omega
      · have HM2 := hid (show M = (Y.take (k + 1)).filter f by rw [HT.out, List.filter_append, ← HMM.out, List.filter_cons_of_neg (by rw [HKP.out, hp]; simp)]; simp)
        rw [← ByteArray.toList_eq] at hp
        go_wp2_with fail
        go_roundw
        case rel => exact ⟨k + 1, M, a1, c1, by have := HLT.out; omega, by go_num, rfl, HM2.out, HO.out⟩
        case measure => simp [intOf]; omega
    · have HE := hid (show M = Y.filter f by rw [HMM.out, List.take_of_length_le (by omega)])
      have f0 := free_at hr.blk 0
      have HN := hid (show cancN (absR Y) u.data.toList = (Y.length : Int) - M.length by unfold cancN; rw [← hEQ.out, HE.out]; simp [absR])
      have hn1 : ((Y.length : Int) - M.length) ≤ 256 := by omega
      have hn2 : 0 ≤ ((Y.length : Int) - M.length) := by omega
      clear hr
      go_wp2_with fail
      go_ret
      rw [HN.out, ← hEQ.out, ← HE.out]
      exact ⟨rfl, HH.out.turn HO.out (by rw [HE.out]; exact List.filter_sublist)⟩
end Go.Proofs.Ytionejokdfgmhaa

/- at, insert of the reference, walked. -/
import Derived.Test.YtdikijbkfhimoaaRlP
namespace Go.Proofs.Ytdikijbkfhimoaa
open Go.RowKit Go.Maps

section
variable {w : World} {qb most delay : Nat} {a : Option Addr} {cap : Nat} {Y : List RQ}
set_option maxHeartbeats 1000000 in
theorem at_any (h : RAt w qb most delay a cap Y) (s : ByteArray) :
    Calls Try.prog 37 #[.pointer (some ⟨qb, 0, none⟩), .string s] w fun e w' => e = .returned (.int .i64 (idx (eqR s.data.toList) Y)) ∧ w = w' := by
  have c2 := h.c2
  have hfew := h.len
  go_enter Try.func37, Try.ntmps37
  go_wp2_with fail
  go_loop [5] (fun i => ∃ k : Nat, k ≤ Y.length ∧ i = .int .i64 k ∧ NoneTo (eqR s.data.toList) Y k) (fun i => Y.length - (intOf i).toNat)
  case atStart => exact ⟨0, Nat.zero_le _, rfl, NoneTo.zero _ _⟩
  case round =>
    obtain ⟨k, hk, rfl, hn⟩ := hrel
    by_cases hlt : k < Y.length
    · obtain ⟨g, rfl, hg, d0, d1⟩ := h.get hlt
      unfold sV at d0
      have hb1 : (0 : Int) ≤ k := by omega
      have hb2 : (k : Int) < Y.length := by omega
      cases hp : eqR s.data.toList Y[k]
      · have e1 : (Y[k].id == s.toList) = false := by rw [ByteArray.toList_eq]; exact hp
        have HN := hid (hn.next hlt hp)
        clear hp
        go_wp2_with fail
        go_round
        case rel => exact ⟨k + 1, by omega, by go_num, HN.out⟩
        case measure => simp [intOf]; omega
      · have e1 : (Y[k].id == s.toList) = true := by rw [ByteArray.toList_eq]; exact hp
        have HN := hid (idx_yes hn hlt hp)
        clear hp
        go_wp2_with fail
        go_ret
        exact ⟨ret_int HN.out.symm, rfl⟩
    · have hx := hid (idx_no (hn.all (by omega)))
      go_wp2_with fail
      go_ret
      exact ⟨ret_int hx.out.symm, rfl⟩
end
abbrev NsAt (w : World) (a : Option Addr) (l : List RN) : Prop := ListAt 4 encN w a l
theorem NsAt.get {w : World} {a : Option Addr} {l : List RN} (h : NsAt w a l) {i : Nat} (hi : i < l.length) : ∃ b off, a = some ⟨b, off, none⟩ ∧ b < w.heap.size ∧ w.cell? ⟨b, off + i * 4, none⟩ = some (sV l[i].c) ∧ w.cell? ⟨b, off + i * 4 + 1, none⟩ = some (.int .i64 (l[i].failed : Int)) ∧ w.cell? ⟨b, off + i * 4 + 2, none⟩ = some (.int .i64 l[i].begun) ∧ w.cell? ⟨b, off + i * 4 + 3, none⟩ = some (.int .i64 l[i].state) := by
  obtain ⟨b, off, e, hb, hc⟩ := h.at hi
  exact ⟨b, off, e, hb, by have := hc 0 _ rfl; rwa [Nat.add_zero] at this, hc 1 _ rfl, hc 2 _ rfl, hc 3 _ rfl⟩
theorem four {w : World} {b : Nat} {t : TypeId} {v0 v1 v2 v3 : Value} (h : w.heap[b]? = some (.cells #[v0, v1, v2, v3] t (0, 0))) :
    w.cell? ⟨b, 0, none⟩ = some v0 ∧ w.cell? ⟨b, 1, none⟩ = some v1 ∧ w.cell? ⟨b, 2, none⟩ = some v2 ∧ w.cell? ⟨b, 3, none⟩ = some v3 := by
  refine ⟨?_, ?_, ?_, ?_⟩ <;> (rw [cell_at h]; rfl)
theorem ListAt.takeA {α : Type} {sz : Nat} {enc : α → List Value} {w : World} {a : Option Addr} {l : List α} (h : ListAt sz enc w a l) (k : Nat) : ListAt sz enc w a (l.take k) := by
  refine ⟨?_, Nat.le_trans (by simp; omega) h.few⟩
  rcases h.cells with h0 | ⟨b, off, e, hb, hc⟩
  · left; rw [h0]; simp
  · right
    refine ⟨b, off, e, hb, fun i hi => ?_⟩
    rw [List.length_take] at hi
    rw [List.getElem_take]
    exact hc i (by omega)
theorem ListAt.pre {α : Type} {sz : Nat} {enc : α → List Value} {w : World} {b off cap : Nat} {l : List α} (h : ListAt sz enc w (some ⟨b, off, none⟩) l) {k : Nat} (hk : k ≤ l.length) (hc : l.length ≤ cap) : ListAt sz enc w (some ⟨b, off, none⟩) (l.take k) := by
  have := ListAt.take h hk hc
  split at this
  · exact this
  · simpa [add_none] using this
theorem ListAt.post {α : Type} {sz : Nat} {enc : α → List Value} {w : World} {b off cap : Nat} {l : List α} (h : ListAt sz enc w (some ⟨b, off, none⟩) l) {k : Nat} (hk : k < l.length) (hc : l.length ≤ cap) : ListAt sz enc w (some ⟨b, off + k * sz, none⟩) (l.drop k) := by
  have := ListAt.drop h (Nat.le_of_lt hk) hc
  rw [if_neg (by omega)] at this
  simpa [add_none] using this
set_option maxHeartbeats 4000000 in
set_option maxRecDepth 100000 in
theorem rinsert_any {w : World} {a : Option Addr} {cap : Nat} {l : List RN} (h : NsAt w a l) (hl : l.length ≤ 256) (hcap : l.length ≤ cap) (x : RN) :
    Calls Try.prog 38 #[.slice a l.length cap, .agg (encN x).toArray] w fun e w' => ∃ a' c' k, e = .returned (.slice a' (insK l x k).length c') ∧ OwnL 81 4 encN w w' a' c' (insK l x k) ∧ LtTo RN.c x.c l k ∧ ∀ hk : k < l.length, ¬ l[k].c < x.c := by
  have HH := hid h
  obtain ⟨xc, xf, xb, xs⟩ := x
  show Calls Try.prog 38 #[.slice a l.length cap, .agg #[.string ⟨xc.toArray⟩, .int .i64 (xf : Int), .int .i64 xb, .int .i64 xs]] w _
  have KA := hid ((Kept.refl [] w).alloc (.cells #[.string ⟨xc.toArray⟩, .int .i64 (xf : Int), .int .i64 xb, .int .i64 xs] 81 (0, 0)))
  have HA := hid (heap_alloc_new w (.cells #[.string ⟨xc.toArray⟩, .int .i64 (xf : Int), .int .i64 xb, .int .i64 xs] 81 (0, 0)))
  clear h
  go_enter Try.func38, Try.ntmps38
  go_wp2_with fail
  obtain ⟨g, HG⟩ : ∃ g, Hid (g = w.heap.size) := ⟨_, hid rfl⟩
  obtain ⟨w1, HW⟩ : ∃ v, Hid (v = w.alloc (.cells #[.string ⟨xc.toArray⟩, .int .i64 (xf : Int), .int .i64 xb, .int .i64 xs] 81 (0, 0))) := ⟨_, hid rfl⟩
  rw [← HG.out, ← HW.out]
  rw [← HW.out] at KA HA
  rw [← HG.out] at HA
  have hgs := lt_of_heap HA.out
  have HGS := hid hgs
  have c0 := cell_at HA.out 0
  simp at c0
  have KN := hid (HH.out.keptN KA.out)
  have hll : (l.length : Int) ≤ 256 := by omega
  go_loopw [5] (fun iv wr => ∃ k n : Nat, k ≤ l.length ∧ iv = .int .i64 (k : Int) ∧ wr = w1.drewN n ∧ Hid (LtTo RN.c xc l k)) (fun iv _ => l.length - (intOf iv).toNat)
  case atStart => exact ⟨0, 0, Nat.zero_le _, rfl, rfl, hid (LtTo.zero _ _ _)⟩
  case round =>
    obtain ⟨k, n, hk, rfl, rfl, HT⟩ := hrel
    by_cases hlt : k < l.length
    · obtain ⟨b, off, rfl, hb, d0, d1, d2, d3⟩ := NsAt.get KN.out hlt
      unfold sV at d0
      have hb1 : (0 : Int) ≤ k := by omega
      have hb2 : (k : Int) < l.length := by omega
      have HLE := hid (less_eq l[k].c xc)
      by_cases hc : l[k].c < xc
      · have HN := hid (HT.out.next hlt hc)
        have z1 : Op.bytesLess l[k].c xc = true := by rw [HLE.out]; exact decide_eq_true hc
        clear hc
        generalize l[k] = y at *
        go_wp2_with fail
        go_quiet (fail)
        go_wp2_with fail
        go_roundw
        case rel => exact ⟨k + 1, _, by omega, by go_num, rfl, HN⟩
        case measure => simp [intOf]; omega
      · have HE := hid (show ∀ hk : k < l.length, ¬ l[k].c < xc from fun _ => hc)
        have z1 : Op.bytesLess l[k].c xc = false := by rw [HLE.out]; exact decide_eq_false hc
        clear hc
        generalize l[k] = y at *
        go_wp2_with fail
        go_quiet (fail)
        obtain ⟨M1, HM1⟩ : ∃ M1, Hid (M1 = [] ++ l.take k) := ⟨_, hid rfl⟩
        obtain ⟨M2, HM2⟩ : ∃ M2, Hid (M2 = M1 ++ [(⟨xc, xf, xb, xs⟩ : RN)]) := ⟨_, hid rfl⟩
        obtain ⟨M3, HM3⟩ : ∃ M3, Hid (M3 = M2 ++ l.drop k) := ⟨_, hid rfl⟩
        have HI := hid (show insK l (⟨xc, xf, xb, xs⟩ : RN) k = M3 by rw [HM3.out, HM2.out, HM1.out]; rfl)
        go_wp2_with (first
          | (at_builtin; refine wp_appL encNOk Try.underlying75 HM3.out o2 ((HH.out.keptN ((KA.out.drewN _).step o2.kept (by simp))).post hlt hcap) (show M2.length + (l.drop k).length ≤ 1000000 by rw [HM2.out, HM1.out]; simp; omega) rfl _ _ rfl rfl rfl rfl (show l.length - k = (l.drop k).length by rw [List.length_drop]) ?_; intro a3 cc3 w4 o3 k3 f3)
          | (at_builtin; (refine wp_appL encNOk Try.underlying75 HM2.out (o1.later ((Kept.refl [] _).alloc _)) (list_box encNOk (heap_alloc_new _ _) rfl (by simp [maxLen])) (show M1.length + 1 ≤ 1000000 by rw [HM1.out]; simp; omega) rfl _ _ rfl rfl rfl rfl rfl ?_); intro a2 cc2 w3 o2 k2 f2)
          | (at_builtin; refine wp_appL encNOk Try.underlying75 HM1.out (OwnL.start _) ((KN.out.keptN ((Kept.refl [] w1).drewN _)).pre hk hcap) (show 0 + (l.take k).length ≤ 1000000 by rw [List.length_take]; omega) rfl _ _ rfl rfl rfl rfl (show k = (l.take k).length by rw [List.length_take]; omega) ?_; intro a1 cc1 w2 o1 k1 f1; obtain ⟨e0, e1, e2, e3⟩ := four (o1.kept.at (((Kept.refl [] w1).drewN _).at HA.out (by simp)) (by simp))))
        go_ret
        refine ⟨a3, cc3, k, ?_, ?_, HT.out, HE.out⟩
        · rw [HI.out]; rfl
        · rw [HI.out]; exact o3.rebase (KA.out.drewN _)
    · have HE := hid (show ∀ hk : k < l.length, ¬ l[k].c < xc from fun h => absurd h hlt)
      have hb1 : (0 : Int) ≤ k := by omega
      have hb4 : ¬ ((k : Int) < l.length) := by omega
      go_wp2_with fail
      go_quiet (fail)
      obtain ⟨M1, HM1⟩ : ∃ M1, Hid (M1 = [] ++ l.take k) := ⟨_, hid rfl⟩
      obtain ⟨M2, HM2⟩ : ∃ M2, Hid (M2 = M1 ++ [(⟨xc, xf, xb, xs⟩ : RN)]) := ⟨_, hid rfl⟩
      obtain ⟨M3, HM3⟩ : ∃ M3, Hid (M3 = M2 ++ l.drop k) := ⟨_, hid rfl⟩
      have HI := hid (show insK l (⟨xc, xf, xb, xs⟩ : RN) k = M3 by rw [HM3.out, HM2.out, HM1.out]; rfl)
      go_wp2_with (first
        | (at_builtin; refine wp_appL encNOk Try.underlying75 HM3.out o2 (show ListAt 4 encN w3 _ (l.drop k) from by rw [List.drop_of_length_le (by omega)]; exact list_nil _ _) (show M2.length + (l.drop k).length ≤ 1000000 by rw [HM2.out, HM1.out]; simp; omega) rfl _ _ rfl rfl rfl rfl (show l.length - k = (l.drop k).length by rw [List.length_drop]) ?_; intro a3 cc3 w4 o3 k3 f3)
        | (at_builtin; (refine wp_appL encNOk Try.underlying75 HM2.out (o1.later ((Kept.refl [] _).alloc _)) (list_box encNOk (heap_alloc_new _ _) rfl (by simp [maxLen])) (show M1.length + 1 ≤ 1000000 by rw [HM1.out]; simp; omega) rfl _ _ rfl rfl rfl rfl rfl ?_); intro a2 cc2 w3 o2 k2 f2)
        | (at_builtin; refine wp_appL encNOk Try.underlying75 HM1.out (OwnL.start _) ((KN.out.keptN ((Kept.refl [] w1).drewN _)).takeA k) (show 0 + (l.take k).length ≤ 1000000 by rw [List.length_take]; omega) rfl _ _ rfl rfl rfl rfl (show k = (l.take k).length by rw [List.length_take]; omega) ?_; intro a1 cc1 w2 o1 k1 f1; obtain ⟨e0, e1, e2, e3⟩ := four (o1.kept.at (((Kept.refl [] w1).drewN _).at HA.out (by simp)) (by simp))))
      all_goals
        go_ret
        refine ⟨a3, cc3, k, ?_, ?_, HT.out, HE.out⟩
        · rw [HI.out]; rfl
        · rw [HI.out]; exact o3.rebase (KA.out.drewN _)
end Go.Proofs.Ytdikijbkfhimoaa

/- Proofs: Clone, IndexFunc, DeleteFunc, strength.Add; the reference's Add. -/
import Derived.Test.YtakccoiecmibcaaEnt
import Derived.Maps.AppendAt
namespace Go.Proofs.Ytakccoiecmibcaa
open Go.RowKit Go.Maps

abbrev OwnP (w0 w : World) (a : Option Addr) (cap : Nat) (l : List Prf) : Prop := OwnL 59 2 encP w0 w a cap l
abbrev prfV (p : Prf) : Value := .agg #[.int .i64 p.1, .int .i64 p.2]
theorem rowP_get (l : List Prf) (i : Nat) (h : i < l.length) : (rowV encP l)[i * 2]? = some (.int .i64 l[i].1) ∧ (rowV encP l)[i * 2 + 1]? = some (.int .i64 l[i].2) :=
  ⟨by have := rowV_get encPOk l i 0 h (by omega); rwa [Nat.add_zero] at this, rowV_get encPOk l i 1 h (by omega)⟩
theorem delP_yes {α : Type} {p : α → Bool} {l : List α} {k : Nat} (h : k < l.length) (hv : p l[k] = true) : delP p (l.take (k + 1)) = delP p (l.take k) := by rw [delP_snoc p l k h, if_pos hv]
theorem delP_keep {α : Type} {p : α → Bool} {l : List α} {k : Nat} (h : k < l.length) (hv : p l[k] = false) : delP p (l.take (k + 1)) = delP p (l.take k) ++ [l[k]] := by rw [delP_snoc p l k h, if_neg (by rw [hv]; simp)]
theorem rowP_set (l : List Prf) (i : Nat) (h : i < l.length) (p : Prf) : rowV encP (l.set i p) = ((rowV encP l).set (i * 2) (.int .i64 p.1)).set (i * 2 + 1) (.int .i64 p.2) := by
  induction l generalizing i with
  | nil => simp at h
  | cons q r ih =>
    cases i with
    | zero => rfl
    | succ i =>
      have e1 : (i + 1) * 2 = i * 2 + 1 + 1 := by omega
      rw [e1]
      show [Value.int .i64 q.1, .int .i64 q.2] ++ rowV encP (r.set i p) = (([Value.int .i64 q.1, .int .i64 q.2] ++ rowV encP r).set (i * 2 + 1 + 1) (.int .i64 p.1)).set (i * 2 + 1 + 1 + 1) (.int .i64 p.2)
      rw [ih i (by simpa using h)]
      rfl
set_option maxHeartbeats 400000 in
theorem cloneP_any {w : World} {a : Option Addr} {cap : Nat} {l : List Prf} (h : PrfsAt w a l) (hlen : l.length ≤ 100000) :
    Calls Try.prog 37 #[.slice a l.length cap] w fun e w' => ∃ a' cap', e = .returned (.slice a' l.length cap') ∧ OwnP w w' a' cap' l := by
  have hq : ∀ (w : World) (a : Option Addr) (n c : Nat), (binOp .eql 28 (.slice a n c) (.slice none 0 0)).run Try.prog w = .ok (.bool a.isNone) w := fun w a n c => Lib.run_eql_slice_nil w _ _ a n c 0 0 Try.underlying28
  cases a with
  | none =>
    have hl0 : l = [] := by
      rcases h.cells with h0 | ⟨b, off, e, _⟩
      · exact h0
      · cases e
    subst hl0
    go_enter Try.func37, Try.ntmps37
    go_wp2_with fail
    go_ret
    exact ⟨none, 0, rfl, OwnL.start w⟩
  | some ad =>
    have hd := h.keptN ((Kept.refl [] w).alloc (.cells #[] 59 (0, 0)))
    obtain ⟨M, HM⟩ : ∃ M, Hid (M = [] ++ l) := ⟨_, hid rfl⟩
    go_enter Try.func37, Try.ntmps37
    go_wp2_with (at_builtin; refine wp_appL encPOk Try.underlying28 HM.out (OwnL.made w) hd (by simp; omega) rfl _ _ rfl rfl rfl rfl rfl ?_; intro a' cap' w1 o1 k1 f1)
    go_ret
    have hml : M = l := by rw [HM.out]; rfl
    subst hml
    exact ⟨a', cap', rfl, o1⟩
set_option maxHeartbeats 400000 in
theorem add1_any (pb : Nat) (f : Int) (p : Prf) (w : World) (hw : w.cell? ⟨pb, 0, none⟩ = some (.int .i64 f)) :
    Calls Try.prog 58 #[prfV p, .pointer (some ⟨pb, 0, none⟩)] w fun e w' => e = .returned (.bool (hasF f p)) ∧ Kept [] w w' := by
  have hd : (w.alloc (.cells #[.int .i64 p.1, .int .i64 p.2] 59 (0, 0))).cell? ⟨pb, 0, none⟩ = some (.int .i64 f) := by
    rw [((Kept.refl [] w).alloc _).cell (World.block_lt_of_cell? w _ hw) (by simp)]; exact hw
  go_enter Try.func58, Try.ntmps58
  go_wp2
  go_ret
  exact ⟨rfl, (Kept.refl [] w).alloc _⟩
set_option maxHeartbeats 1000000 in
theorem indexP_any (pb : Nat) (f : Int) {w : World} {a : Option Addr} {cap : Nat} {l : List Prf} (h : PrfsAt w a l) (hw : w.cell? ⟨pb, 0, none⟩ = some (.int .i64 f)) :
    Calls Try.prog 68 #[.slice a l.length cap, .func (.func 58) #[] #[.pointer (some ⟨pb, 0, none⟩)]] w fun e w' => e = .returned (.int .i64 (idx (hasF f) l)) ∧ Kept [] w w' := by
  have hf := h.few
  unfold maxLen at hf
  go_enter Try.func68, Try.ntmps68
  go_wp2_with fail
  go_loopw [5, 8] (fun _ i wr => ∃ k : Nat, k ≤ l.length ∧ i = .int .i64 k ∧ NoneTo (hasF f) l k ∧ Kept [] w wr) (fun _ i _ => l.length - (intOf i).toNat)
  case atStart => exact ⟨0, Nat.zero_le _, rfl, NoneTo.zero _ _, Kept.refl _ _⟩
  case round =>
    obtain ⟨k, hk, rfl, hn, hkw⟩ := hrel
    by_cases hlt : k < l.length
    · obtain ⟨b, off, rfl, hb, hc0, hc1⟩ := PrfsAt.get (h.keptN hkw) hlt
      have hb1 : (0 : Int) ≤ k := by omega
      have hb2 : (k : Int) < l.length := by omega
      have hiw := hkw.cell (World.block_lt_of_cell? w _ hw) (by simp)
      rw [hw] at hiw
      have HQ := hid (add1_any pb f l[k] wr hiw)
      cases hp : hasF f l[k]
      · have HP := hid hp
        rw [hp] at HQ
        clear hp
        go_wp2_with (go_at_call 58; refine HQ.out.mono ?_; rintro e w1 ⟨rfl, hk1⟩)
        go_roundw
        case rel => exact ⟨k + 1, by omega, by go_num, hn.next hlt HP.out, hkw.step hk1 (by simp)⟩
        case measure => simp [intOf]; omega
      · have HP := hid hp
        rw [hp] at HQ
        clear hp
        go_wp2_with (go_at_call 58; refine HQ.out.mono ?_; rintro e w1 ⟨rfl, hk1⟩)
        go_ret
        exact ⟨ret_int (by rw [idx_yes hn hlt HP.out]), hkw.step hk1 (by simp)⟩
    · have hx := hid (idx_no (hn.all (by omega)))
      go_wp2_with fail
      go_ret
      exact ⟨ret_int hx.out.symm, hkw⟩
set_option maxHeartbeats 2000000 in
set_option maxRecDepth 100000 in
theorem deleteP_any (pb : Nat) (f : Int) {w0 w : World} {a : Option Addr} {cap : Nat} {l : List Prf} (h : OwnP w0 w a cap l) (hlen : l.length ≤ 100000) (hw : w.cell? ⟨pb, 0, none⟩ = some (.int .i64 f)) (hpb : pb < w0.heap.size) :
    Calls Try.prog 57 #[.slice a l.length cap, .func (.func 58) #[] #[.pointer (some ⟨pb, 0, none⟩)]] w fun e w' => ∃ a' cap', e = .returned (.slice a' (delP (hasF f) l).length cap') ∧ OwnP w0 w' a' cap' (delP (hasF f) l) := by
  have HX := hid (indexP_any (cap := cap) pb f (h.seq encPOk) hw)
  rcases idx_split (p := hasF f) (l := l) with ⟨e, hn⟩ | ⟨i0, hi0, e, hp, hn⟩
  · have E := hid (delP_none hn)
    rw [e] at HX
    clear e
    go_enter Try.func57, Try.ntmps57
    go_wp2_with (go_at_call 68; refine HX.out.mono ?_; rintro e w1 ⟨rfl, hk1⟩)
    go_ret
    rw [E.out]
    exact ⟨a, cap, rfl, h.later hk1⟩
  · rw [e] at HX
    clear e
    have HM := hid (Mix.start hi0 hp hn)
    have hne : ((i0 : Int) == -1) = false := by rw [beq_eq_false_iff_ne]; omega
    obtain ⟨g, cur, rfl, hg, hncap, hcm, _⟩ := row_some h.row (by omega)
    have hgw := lt_of_heap hg
    have hgn : w0.heap.size ≤ g := h.new g (by simp [fp])
    have hr0 := h.row
    have hk0 := h.kept
    unfold maxLen at hcm
    have HH := hid h
    clear h
    go_enter Try.func57, Try.ntmps57
    go_wp2_with (go_at_call 68; refine HX.out.mono ?_; rintro e w1 ⟨rfl, hk1⟩)
    go_loopw [5, 6] (fun iv jv wr => ∃ (i j : Nat) (mix : List Prf), iv = .int .i64 i ∧ jv = .int .i64 j ∧ Hid (Mix (hasF f) l mix i j) ∧ wr.ownsRow 0 59 2 (.slice (some ⟨g, 0, none⟩) l.length cap) l.length (rowV encP mix) ∧ Kept [g] w wr) (fun _ jv _ => l.length - (intOf jv).toNat)
    case atStart => exact ⟨i0, i0 + 1, l, rfl, by first | rfl | go_num, HM, row_kept hr0 hk1 (by simp), hk1.mono (by simp)⟩
    case round =>
      obtain ⟨i, j, mix, rfl, rfl, HMx, hrow, hkw⟩ := hrel
      have hij := HMx.out.lt
      have hjl := HMx.out.le
      by_cases hlt : j < l.length
      · obtain ⟨hjm, hmj⟩ := HMx.out.get hlt
        obtain ⟨q0, q1⟩ := rowP_get mix j hjm
        rw [hmj] at q0 q1
        have hc0 := row_cell hrow q0
        have hc1 := row_cell hrow q1
        have hpw : wr.cell? ⟨pb, 0, none⟩ = some (.int .i64 f) := by rw [hkw.cell (World.block_lt_of_cell? w _ hw) (by simp; omega)]; exact hw
        have hgr : g < wr.heap.size := Nat.lt_of_lt_of_le hgw hkw.size
        have hb1 : (0 : Int) ≤ j := by omega
        have hb2 : (j : Int) < l.length := by omega
        have hi1 : (0 : Int) ≤ i := by omega
        have hi2 : (i : Int) < l.length := by omega
        have HC := hid (add1_any pb f l[j] (wr.alloc (.cells #[.int .i64 l[j].1, .int .i64 l[j].2] 59 (0, 0))) (by rw [((Kept.refl [] wr).alloc _).cell (World.block_lt_of_cell? wr _ hpw) (by simp)]; exact hpw))
        have hbx := heap_alloc_new wr (.cells #[.int .i64 l[j].1, .int .i64 l[j].2] 59 (0, 0))
        cases hp2 : hasF f l[j]
        · have HM2 := hid (HMx.out.put hlt hp2)
          rw [hp2] at HC
          clear hp2 q0 q1
          have him : i < mix.length := by omega
          obtain ⟨z0, z1⟩ := rowP_get mix i him
          clear hmj
          go_wp2_with (go_at_call 58; refine HC.out.mono ?_; rintro e w2 ⟨rfl, hk2⟩; have hrow2 := row_kept (row_kept hrow ((Kept.refl [] wr).alloc (.cells #[.int .i64 l[j].1, .int .i64 l[j].2] 59 (0, 0))) (by simp)) hk2 (by simp); have d0 := row_cell hrow2 z0; have d1 := row_cell hrow2 z1; have fz0 := hrow2.frozenAt (i * 2); have fz1 := hrow2.frozenAt (i * 2 + 1); have hb2' := hk2.at hbx (by simp); have b0 := cell_at hb2' 0; have b1 := cell_at hb2' 1; simp at b0 b1)
          go_roundw
          case rel =>
            have hr2 := ((hrow2.stored (i * 2) (.int .i64 l[j].1)).1.stored (i * 2 + 1) (.int .i64 l[j].2)).1
            rw [← rowP_set mix i him] at hr2
            exact ⟨i + 1, j + 1, _, by go_num, by go_num, HM2, hr2, ((((hkw.alloc _).step hk2 (by simp)).setCell (.inl (by simp)) _).setCell (.inl (by simp)) _)⟩
          case measure => simp [intOf]; omega
        · have HM2 := hid (HMx.out.skip hlt hp2)
          rw [hp2] at HC
          clear hp2
          go_wp2_with (go_at_call 58; refine HC.out.mono ?_; rintro e w2 ⟨rfl, hk2⟩; have hb2' := hk2.at hbx (by simp); have b0 := cell_at hb2' 0; have b1 := cell_at hb2' 1; simp at b0 b1)
          go_roundw
          case rel => exact ⟨i, j + 1, mix, rfl, by go_num, HM2, row_kept (row_kept hrow ((Kept.refl [] wr).alloc _) (by simp)) hk2 (by simp), (hkw.alloc _).step hk2 (by simp)⟩
          case measure => simp [intOf]; omega
      · obtain rfl : j = l.length := by omega
        obtain ⟨g', cur, e, hg', _, _, hcs, htk⟩ := row_some hrow (by omega)
        injection e with e; injection e with e
        subst e
        have hfr := HMx.out.front
        rw [List.take_length] at hfr
        have hlen2 : (delP (hasF f) l).length = i := by rw [← hfr]; simp; have := HMx.out.len; omega
        have hcl := fun ty => run_clear_own (P := Try.prog) wr 28 59 ty (.agg #[.int .i64 0, .int .i64 0]) Try.underlying28 (fun _ => by kernel_rfl) (by decide) (by decide) g (i * 2) (l.length - i) (cap - i) (by omega) cur hg' (by rw [hcs]; simp [Value.cells]; omega)
        have hi1 : (0 : Int) ≤ i := by omega
        have hi2 : (i : Int) ≤ l.length := by omega
        have hi3 : (l.length : Int) ≤ cap := by omega
        have hi4 : (i : Int) ≤ cap := by omega
        have HF := hid hfr
        have HL2 := hid hlen2
        have HT := hid htk
        have HCS := hid hcs
        clear hfr hlen2 htk hcs
        go_wp2_with fail
        go_ret
        rw [HL2.out]
        refine ⟨some ⟨g, 0, none⟩, cap, rfl, ?_⟩
        have := row_cleared encPOk (i := i) (n := l.length) (rest := (Builtin.zeroCells (Value.agg #[.int .i64 0, .int .i64 0]).cells (l.length - i)).toList ++ cur.toList.drop (i * 2 + (l.length - i) * 2)) rfl hg' HCS.out HT.out (by omega) hncap (by unfold maxLen; omega) HF.out HL2.out (by simp [Builtin.zeroCells, HCS.out, Value.cells]; omega) hk0 hkw hgn
        simpa [Value.cells] using this

/-! ### Add -/
set_option maxHeartbeats 400000 in
theorem valid_any (t : Int) (w : World) :
    Calls Try.prog 56 #[.int .i64 t] w fun e w' => e = .returned (.bool (t == lim t)) ∧ w = w' := by
  go_enter Try.func56, Try.ntmps56
  go_wp2_with (go_at_call 51; refine (limited_any _ _).mono ?_; rintro e w' ⟨rfl, rfl⟩)
  go_ret
  exact ⟨rfl, rfl⟩
/-- What Add leaves. -/
structure Added (w w' : World) (e : Ending) (l : List Prf) (p : Prf) : Prop where
  err : addE p ≠ 0 → e = .returned (.tuple #[.slice none 0 0, .int .i64 (addE p)]) ∧ Kept [] w w'
  ok : addE p = 0 → ∃ a' cap', e = .returned (.tuple #[.slice a' (addL l p).length cap', .int .i64 0]) ∧ OwnP w w' a' cap' (addL l p)

theorem prf_box (w : World) (p : Prf) : PrfsAt (w.alloc (.cells #[.int .i64 p.1, .int .i64 p.2] 59 (0, 0))) (some ⟨w.heap.size, 0, none⟩) [p] :=
  list_box encPOk (heap_alloc_new w _) rfl (by simp [maxLen])
set_option maxHeartbeats 1000000 in
theorem padd_any {w : World} {a : Option Addr} {cap : Nat} {l : List Prf} (h : PrfsAt w a l) (hlen : l.length ≤ 1000) (p : Prf) :
    Calls Try.prog 33 #[.slice a l.length cap, prfV p] w fun e w' => Added w w' e l p := by
  have hbx := heap_alloc_new w (.cells #[.int .i64 p.1, .int .i64 p.2] 59 (0, 0))
  by_cases h1 : p.1 < 1
  · have E : addE p = 2 := by simp [addE, h1]
    have HE := hid E
    clear E
    go_enter Try.func33, Try.ntmps33
    go_wp2_with fail
    go_ret2
    exact ⟨fun _ => by rw [HE.out]; exact ⟨rfl, (Kept.refl [] w).alloc _⟩, fun e => by rw [HE.out] at e; cases e⟩
  by_cases h2 : 4 < p.1
  · have E : addE p = 2 := by simp [addE, h2]
    have HE := hid E
    clear E
    go_enter Try.func33, Try.ntmps33
    go_wp2_with fail
    go_ret2
    exact ⟨fun _ => by rw [HE.out]; exact ⟨rfl, (Kept.refl [] w).alloc _⟩, fun e => by rw [HE.out] at e; cases e⟩
  by_cases h3 : p.2 < 0 ∨ 1099511627776 < p.2
  · have E : addE p = 27 := by simp [addE, h1, h2, h3]
    have HE := hid E
    have hv : (p.2 == lim p.2) = false := by rw [beq_eq_false_iff_ne]; unfold lim; omega
    clear E h3
    go_enter Try.func33, Try.ntmps33
    go_wp2_with (go_at_call 56; refine (valid_any _ _).mono ?_; rintro e w' ⟨rfl, rfl⟩)
    go_ret2
    exact ⟨fun _ => by rw [HE.out]; exact ⟨rfl, (Kept.refl [] w).alloc _⟩, fun e => by rw [HE.out] at e; cases e⟩
  · have E : addE p = 0 := by simp [addE, h1, h2, h3]
    have HE := hid E
    have hv : (p.2 == lim p.2) = true := by rw [beq_iff_eq]; unfold lim; omega
    have hd := h.keptN ((Kept.refl [] w).alloc (.cells #[.int .i64 p.1, .int .i64 p.2] 59 (0, 0)))
    have hll := delF_len l p.1
    obtain ⟨M, HM⟩ : ∃ M, Hid (M = delP (hasF p.1) l ++ [p]) := ⟨_, hid rfl⟩
    clear E h3
    go_enter Try.func33, Try.ntmps33
    go_wp2_with (first
      | (go_at_call 56; refine (valid_any _ _).mono ?_; rintro e w' ⟨rfl, rfl⟩)
      | (go_at_call 37; refine (cloneP_any hd (by omega)).mono ?_; rintro e w1 ⟨a1, cap1, rfl, ho1⟩; have hb1 := ho1.kept.at hbx (by simp)))
    refine (deleteP_any w.heap.size p.1 ho1 (by omega) (by rw [cell_at hb1]; rfl) (by simp)).mono ?_
    rintro e w2 ⟨a2, cap2, rfl, ho2⟩
    have hb2 := ho2.kept.at hbx (by simp)
    have b0 := cell_at hb2 0
    have b1 := cell_at hb2 1
    simp at b0 b1
    go_wp2_with (at_builtin; refine wp_appL encPOk Try.underlying28 HM.out (ho2.later ((Kept.refl [] _).alloc _)) (prf_box _ p) (by simp; omega) rfl _ _ rfl rfl rfl rfl rfl ?_; intro a3 c3 w3 o3 k3 f3)
    go_ret2
    have e : addL l p = M := by unfold addL; rw [HM.out]
    exact ⟨fun e => absurd HE.out e, fun _ => ⟨a3, c3, by rw [e]; simp, by rw [e]; exact o3.rebase ((Kept.refl [] w).alloc _)⟩⟩

set_option maxHeartbeats 1000000 in
set_option maxRecDepth 100000 in
theorem rpadd_any {w : World} {a : Option Addr} {cap : Nat} {l : List Prf} (h : PrfsAt w a l) (hlen : l.length ≤ 1000) (p : Prf) :
    Calls Try.prog 64 #[.slice a l.length cap, prfV p] w fun e w' => Added w w' e l p := by
  have hbx := heap_alloc_new w (.cells #[.int .i64 p.1, .int .i64 p.2] 59 (0, 0))
  by_cases h1 : p.1 < 1
  · have E : addE p = 2 := by simp [addE, h1]
    have HE := hid E
    clear E
    go_enter Try.func64, Try.ntmps64
    go_wp2_with fail
    go_ret2
    exact ⟨fun _ => by rw [HE.out]; exact ⟨rfl, (Kept.refl [] w).alloc _⟩, fun e => by rw [HE.out] at e; cases e⟩
  by_cases h2 : 4 < p.1
  · have E : addE p = 2 := by simp [addE, h2]
    have HE := hid E
    clear E
    go_enter Try.func64, Try.ntmps64
    go_wp2_with fail
    go_ret2
    exact ⟨fun _ => by rw [HE.out]; exact ⟨rfl, (Kept.refl [] w).alloc _⟩, fun e => by rw [HE.out] at e; cases e⟩
  by_cases h3 : p.2 < 0
  · have E : addE p = 27 := by simp [addE, h1, h2, h3]
    have HE := hid E
    clear E
    go_enter Try.func64, Try.ntmps64
    go_wp2_with fail
    go_ret2
    exact ⟨fun _ => by rw [HE.out]; exact ⟨rfl, (Kept.refl [] w).alloc _⟩, fun e => by rw [HE.out] at e; cases e⟩
  by_cases h4 : 1099511627776 < p.2
  · have E : addE p = 27 := by simp [addE, h1, h2, h4]
    have HE := hid E
    clear E
    go_enter Try.func64, Try.ntmps64
    go_wp2_with fail
    go_ret2
    exact ⟨fun _ => by rw [HE.out]; exact ⟨rfl, (Kept.refl [] w).alloc _⟩, fun e => by rw [HE.out] at e; cases e⟩
  have E : addE p = 0 := by simp [addE, h1, h2, h3, h4]
  have HE := hid E
  clear E
  have k0 := (Kept.refl [] w).alloc (.cells #[.int .i64 p.1, .int .i64 p.2] 59 (0, 0))
  obtain ⟨w0, HW0⟩ : ∃ w0, Hid (w0 = w.alloc (.cells #[.int .i64 p.1, .int .i64 p.2] 59 (0, 0))) := ⟨_, hid rfl⟩
  rw [← HW0.out] at hbx k0
  have HK0 := hid k0
  have HB := hid hbx
  go_enter Try.func64, Try.ntmps64
  go_wp2_with fail
  rw [← HW0.out]
  clear k0 hbx
  go_loopw [6, 7] (fun v i wr => ∃ (k : Nat) (a' : Option Addr) (cap' : Nat) (M : List Prf), k ≤ l.length ∧ i = .int .i64 k ∧ v = .slice a' M.length cap' ∧ M = delP (hasF p.1) (l.take k) ∧ OwnP w0 wr a' cap' M) (fun _ i _ => l.length - (intOf i).toNat)
  case atStart => exact ⟨0, none, 0, [], Nat.zero_le _, rfl, rfl, rfl, OwnL.start _⟩
  case round =>
    obtain ⟨k, a', cap', M, hk, rfl, rfl, hM, ho⟩ := hrel
    have HMM := hid hM
    have hll : M.length ≤ l.length := by rw [hM]; exact Nat.le_trans (delP_le _ _) (by simp; omega)
    clear hM
    have hkw : Kept [] w wr := HK0.out.step ho.kept (by simp)
    have hb2 := ho.kept.at HB.out (by simp)
    have b0 := cell_at hb2 0
    have b1 := cell_at hb2 1
    simp at b0 b1
    have HO := hid ho
    clear ho
    by_cases hlt : k < l.length
    · obtain ⟨b, off, rfl, hb, hc0, hc1⟩ := PrfsAt.get (h.keptN hkw) hlt
      have hb1 : (0 : Int) ≤ k := by omega
      have hb2 : (k : Int) < l.length := by omega
      have HLT := hid hlt
      cases hv : hasF p.1 l[k]
      · have he : (l[k].1 == p.1) = false := hv
        have HM2 := hid (show M ++ [l[k]] = delP (hasF p.1) (l.take (k + 1)) by rw [HMM.out]; exact (delP_keep hlt hv).symm)
        obtain ⟨M2, HM3⟩ : ∃ M2, Hid (M2 = M ++ [l[k]]) := ⟨_, hid rfl⟩
        clear hv
        go_wp2_with fail
        go_quiet (fail)
        go_wp2_with (at_builtin; refine wp_appL encPOk Try.underlying28 HM3.out (HO.out.later (((Kept.refl [] wr).drewN _).alloc _)) (prf_box _ l[k]) (by simp; omega) rfl _ _ rfl rfl rfl rfl rfl ?_; intro a3 c3 w3 o3 k3 f3)
        go_roundw
        case rel => exact ⟨k + 1, a3, c3, M2, by have := HLT.out; omega, by go_num, rfl, by rw [HM3.out]; exact HM2.out, o3⟩
        case measure => simp [intOf]; omega
      · have he : (l[k].1 == p.1) = true := hv
        have HM2 := hid (show M = delP (hasF p.1) (l.take (k + 1)) by rw [HMM.out]; exact (delP_yes hlt hv).symm)
        clear hv
        go_wp2_with fail
        go_quiet (fail)
        go_wp2_with fail
        go_roundw
        case rel => exact ⟨k + 1, a', cap', M, by have := HLT.out; omega, by go_num, rfl, HM2.out, HO.out.later ((Kept.refl [] wr).drewN _)⟩
        case measure => simp [intOf]; omega
    · have HM2 := hid (show M = delP (hasF p.1) l by rw [HMM.out, List.take_of_length_le (by omega)])
      obtain ⟨M2, HM3⟩ : ∃ M2, Hid (M2 = M ++ [p]) := ⟨_, hid rfl⟩
      go_wp2_with (at_builtin; refine wp_appL encPOk Try.underlying28 HM3.out (HO.out.later ((Kept.refl [] _).alloc _)) (prf_box _ p) (by simp; omega) rfl _ _ rfl rfl rfl rfl rfl ?_; intro a3 c3 w3 o3 k3 f3)
      go_ret2
      have e : addL l p = M2 := by unfold addL; rw [HM3.out, HM2.out]
      exact ⟨fun e => absurd HE.out e, fun _ => ⟨a3, c3, by rw [e]; simp, by rw [e]; exact o3.rebase HK0.out⟩⟩
end Go.Proofs.Ytakccoiecmibcaa

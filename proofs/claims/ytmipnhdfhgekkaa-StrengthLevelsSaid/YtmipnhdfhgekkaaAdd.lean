/- Clone, DeleteFunc, Add; the reference's Add. -/
import Derived.Test.YtmipnhdfhgekkaaFresh2
namespace Go.Proofs.Ytmipnhdfhgekkaa
open Go.RowKit

theorem prfs_news {w : World} {ad : Addr} {l : List Prf} (h : PrfsAt w (some ad) l) : ∀ j u, (prfsV l)[j]? = some u → w.cell? (ad.add j) = some u := by
  intro j u hu
  have hj : j < l.length * 2 := by
    rcases Nat.lt_or_ge j (l.length * 2) with h1 | h1
    · exact h1
    · rw [List.getElem?_eq_none (by rw [prfsV_len]; exact h1)] at hu; cases hu
  have hi : j / 2 < l.length := by omega
  obtain ⟨b, off, e, hb, h0, h1⟩ := h.at hi
  injection e with e
  subst e
  obtain ⟨e0, e1⟩ := prfsV_get l (j / 2) hi
  have hadd : (⟨b, off, none⟩ : Addr).add j = ⟨b, off + j, none⟩ := by unfold Addr.add; split <;> simp_all
  rw [hadd]
  rcases (show j = j / 2 * 2 ∨ j = j / 2 * 2 + 1 by omega) with e | e
  · rw [e] at hu ⊢
    rw [e0] at hu; rw [← hu, ← h0]
  · rw [e] at hu ⊢
    rw [e1] at hu; rw [← hu, ← h1]; congr 2
theorem prfsV_one (l : List Prf) : ∀ u ∈ prfsV l, u.oneCell' = true := by
  intro u hu
  obtain ⟨p, _, hp⟩ := List.mem_flatMap.1 hu
  exact prf_one p u hp
theorem row_form {w : World} {e : TypeId} {sz : Nat} {v : Value} {n : Nat} {xs : List Value} (h : w.ownsRow 0 e sz v n xs) : ∃ a cap, v = .slice a n cap := by
  rcases h.2 with ⟨rfl, rfl⟩ | ⟨g, cap, cur, rfl, _⟩
  · exact ⟨none, 0, rfl⟩
  · exact ⟨_, cap, rfl⟩

set_option maxHeartbeats 400000 in
theorem clone_any {w : World} {a : Option Addr} {cap : Nat} {l : List Prf} (h : PrfsAt w a l) (hlen : l.length ≤ 1000) :
    Calls Try.prog 37 #[.slice a l.length cap] w fun e w' => ∃ a' cap', e = .returned (.slice a' l.length cap') ∧ Own w w' a' cap' l := by
  have hq : ∀ (w : World) (a : Option Addr) (n c : Nat), (binOp .eql 22 (.slice a n c) (.slice none 0 0)).run Try.prog w = .ok (.bool a.isNone) w := fun w a n c => Lib.run_eql_slice_nil w _ _ a n c 0 0 Try.underlying22
  obtain ⟨i0, hi, hz0, hz1, hz2⟩ := info_parts infoPrf
  cases a with
  | none =>
    have hl0 : l = [] := by
      rcases h.cells with h0 | ⟨b, off, e, _⟩
      · exact h0
      · cases e
    subst hl0
    go_enter Try.func37, Try.ntmps37
    go_wp2_with fail
    go_ret
    exact ⟨none, 0, rfl, Own.start w⟩
  | some ad =>
    have hd := h.kept ((Kept.refl [] w).alloc (.cells #[] 36 (0, 0)))
    go_enter Try.func37, Try.ntmps37
    go_wp2_with (at_builtin; refine wpList_append_own_at _ rfl _ _ _ rfl 0 36 i0 _ 2 16 Try.underlying22 hi hz0 hz1 hz2 rfl (by omega) _ 0 [] rfl (World.ownsRow_made w #[] 0 (Nat.zero_le _) (Nat.zero_le _) rfl) ad l.length cap (prfsV l) rfl (prfsV_len l) (prfs_news hd) (prfsV_one l) (by unfold maxLen; omega) (by omega) (Nat.zero_le _) ?_; intro v' w1 hown hgrow hnil hloc)
    go_ret
    rw [Nat.zero_add, List.nil_append] at hown
    obtain ⟨a', cap', hv⟩ := row_form hown
    rw [hv]
    refine ⟨a', cap', rfl, by rw [← hv]; exact hown, ((Kept.refl [] w).alloc _).grown hgrow (fun i hi => .inr (by have := ownBlock_mem hi; simp [fp] at this; omega)), fun i hi => ?_⟩
    have hi' : (Value.slice a' l.length cap').ownBlock = some i := by
      cases a' with
      | none => simp [fp] at hi
      | some x => simp only [fp, List.mem_singleton] at hi; rw [hi]; rfl
    rw [← hv] at hi'
    rcases hloc with hloc | hloc
    · rw [hloc] at hi'; have := ownBlock_mem hi'; simp [fp] at this; omega
    · rw [hloc] at hi'; injection hi' with hi'; simp at hi'; omega

/-! ### DeleteFunc -/
theorem run_clear_own {P : Program} (w : World) (t e ty : TypeId) (z : Value) (ht : P.underlying t = some (.slice e)) (hv : ∀ w, (zeroValue e).run P w = .ok z w) (h1 : ∀ v ∈ z.cells.toList, v.oneCell' = true) (hzs : 0 < z.cells.size) (g o n c : Nat) (hn : 0 < n) (cur : Array Value)
    (hg : w.heap[g]? = some (.cells cur e (0, 0))) (hfit : o + n * z.cells.size ≤ cur.size) :
    (Builtin.clear_ #[t] ty #[.slice (some ⟨g, o, none⟩) n c]).run P w = .ok (.tuple #[]) (w.setRow g (cur.toList.take o ++ (Builtin.zeroCells z.cells n).toList ++ cur.toList.drop (o + n * z.cells.size)).toArray) := by
  have hlen : (Builtin.zeroCells z.cells n).toList.length = n * z.cells.size := by simp [Builtin.zeroCells]
  have hone : ∀ v ∈ (Builtin.zeroCells z.cells n).toList, v.oneCell' = true := by
    intro v hv'
    simp [Builtin.zeroCells] at hv'
    obtain ⟨i, hi, rfl⟩ := hv'
    apply h1
    have hlt : i % z.cells.size < z.cells.size := Nat.mod_lt _ hzs
    rw [getElem!_pos z.cells _ hlt]
    exact Array.getElem_mem_toList _
  have hst := run_storeCells_at P g o e (Builtin.zeroCells z.cells n).toList 0 cur w hg (by rw [hlen]; simpa using hfit) hone
  simp only [Nat.add_zero, hlen] at hst
  obtain ⟨m, rfl⟩ : ∃ m, n = m + 1 := ⟨n - 1, by omega⟩
  simp [Builtin.clear_, run_underlying ht, hv, hst]
/-! ### in place -/
theorem prfsV_set (l : List Prf) (i : Nat) (h : i < l.length) (p : Prf) : prfsV (l.set i p) = ((prfsV l).set (i * 2) (.int .i64 p.1)).set (i * 2 + 1) (.int .i64 p.2) := by
  induction l generalizing i with
  | nil => simp at h
  | cons q r ih =>
    cases i with
    | zero => rfl
    | succ i =>
      have e1 : (i + 1) * 2 = i * 2 + 1 + 1 := by omega
      rw [e1]
      show [Value.int .i64 q.1, .int .i64 q.2] ++ prfsV (r.set i p) = (([Value.int .i64 q.1, .int .i64 q.2] ++ prfsV r).set (i * 2 + 1 + 1) (.int .i64 p.1)).set (i * 2 + 1 + 1 + 1) (.int .i64 p.2)
      rw [ih i (by simpa using h)]
      rfl
theorem prfsV_take (l : List Prf) (i : Nat) : (prfsV l).take (i * 2) = prfsV (l.take i) := by
  induction l generalizing i with
  | nil => simp [prfsV]
  | cons q r ih =>
    cases i with
    | zero => simp [prfsV]
    | succ i =>
      have e1 : (i + 1) * 2 = i * 2 + 1 + 1 := by omega
      rw [e1]
      show Value.int .i64 q.1 :: .int .i64 q.2 :: (prfsV r).take (i * 2) = Value.int .i64 q.1 :: .int .i64 q.2 :: prfsV (r.take i)
      rw [ih]
def delL (l : List Prf) (f : Int) : List Prf := l.filter fun q => !(hasB f q)
theorem del_snoc (l : List Prf) (f : Int) (k : Nat) (h : k < l.length) : delL (l.take (k + 1)) f = if hasB f l[k] then delL (l.take k) f else delL (l.take k) f ++ [l[k]] := by
  rw [List.take_succ_eq_append_getElem h]
  unfold delL
  rw [List.filter_append]
  by_cases hc : hasB f l[k] <;> simp [hc]

set_option maxHeartbeats 400000 in
theorem add1_any (pb : Nat) (f : Int) (p : Prf) (w : World) (hw : w.cell? ⟨pb, 0, none⟩ = some (.int .i64 f)) :
    Calls Try.prog 38 #[prfV p, .pointer (some ⟨pb, 0, none⟩)] w fun e w' => e = .returned (.bool (hasB f p)) ∧ Kept [] w w' := by
  have hd : (w.alloc (.cells #[.int .i64 p.1, .int .i64 p.2] 36 (0, 0))).cell? ⟨pb, 0, none⟩ = some (.int .i64 f) := by
    rw [((Kept.refl [] w).alloc _).cell (World.block_lt_of_cell? w _ hw) (by simp)]; exact hw
  go_enter Try.func38, Try.ntmps38
  go_wp2
  go_ret
  exact ⟨rfl, (Kept.refl [] w).alloc _⟩
theorem idx_split {p : Prf → Bool} {l : List Prf} : idx p l = -1 ∧ (∀ x ∈ l, p x = false) ∨ ∃ k, ∃ h : k < l.length, idx p l = k ∧ p l[k] = true ∧ NoneTo p l k := by
  unfold idx
  cases h : l.findIdx? p with
  | none =>
    left
    rw [List.findIdx?_eq_none_iff] at h
    exact ⟨rfl, fun x hx => by simpa using h x hx⟩
  | some i =>
    right
    obtain ⟨hi, h1, h2⟩ := List.findIdx?_eq_some_iff_getElem.1 h
    exact ⟨i, hi, rfl, h1, fun j hj hjl => by simpa using h2 j hj⟩
theorem del_none {l : List Prf} {f : Int} (h : ∀ x ∈ l, hasB f x = false) : delL l f = l := List.filter_eq_self.2 (fun x hx => by rw [h x hx]; rfl)
theorem del_to {l : List Prf} {f : Int} {k : Nat} (h : NoneTo (hasB f) l k) : delL (l.take k) f = l.take k := by
  refine del_none (fun x hx => ?_)
  obtain ⟨j, hj, rfl⟩ := List.getElem_of_mem hx
  simp at hj
  simpa using h j (by omega) (by omega)

/-- The list on its way: what was kept so far, then whatever; from j on as it was. -/
structure Mix (l mix : List Prf) (f : Int) (i j : Nat) : Prop where
  len : mix.length = l.length
  front : mix.take i = delL (l.take j) f
  back : mix.drop j = l.drop j
  lt : i < j
  le : j ≤ l.length
theorem Mix.get {l mix : List Prf} {f : Int} {i j : Nat} (h : Mix l mix f i j) (hj : j < l.length) : ∃ h' : j < mix.length, mix[j] = l[j] := by
  have hl : j < mix.length := by rw [h.len]; exact hj
  refine ⟨hl, ?_⟩
  have e := congrArg (fun x => x[0]?) h.back
  simp [hl, hj] at e
  exact e
theorem Mix.skip {l mix : List Prf} {f : Int} {i j : Nat} (h : Mix l mix f i j) (hj : j < l.length) (hp : hasB f l[j] = true) : Mix l mix f i (j + 1) := by
  refine ⟨h.len, by rw [del_snoc l f j hj, if_pos hp]; exact h.front, ?_, by have := h.lt; omega, hj⟩
  have e := congrArg (List.drop 1) h.back
  simpa [List.drop_drop, Nat.add_comm] using e
theorem Mix.put {l mix : List Prf} {f : Int} {i j : Nat} (h : Mix l mix f i j) (hj : j < l.length) (hp : hasB f l[j] = false) : Mix l (mix.set i l[j]) f (i + 1) (j + 1) := by
  have hlt := h.lt
  have hi : i < mix.length := by rw [h.len]; omega
  refine ⟨by simp [h.len], ?_, ?_, by omega, hj⟩
  · rw [del_snoc l f j hj, if_neg (by rw [hp]; simp), ← h.front, List.take_succ_eq_append_getElem (by simpa using hi)]
    simp [List.take_set_of_le]
  · rw [List.drop_set_of_lt (by omega)]
    have e := congrArg (List.drop 1) h.back
    simpa [List.drop_drop, Nat.add_comm] using e

set_option maxHeartbeats 2000000 in
set_option maxRecDepth 100000 in
theorem delete_any (pb : Nat) (f : Int) {w0 w : World} {a : Option Addr} {cap : Nat} {l : List Prf} (h : Own w0 w a cap l) (hlen : l.length ≤ 1000) (hw : w.cell? ⟨pb, 0, none⟩ = some (.int .i64 f)) (hpb : pb < w0.heap.size) :
    Calls Try.prog 36 #[.slice a l.length cap, .func (.func 38) #[] #[.pointer (some ⟨pb, 0, none⟩)]] w fun e w' => ∃ a' cap', e = .returned (.slice a' (delL l f).length cap') ∧ Own w0 w' a' cap' (delL l f) := by
  have hidx : ∀ wq, Kept [] w wq → Calls Try.prog 43 #[.slice a l.length cap, .func (.func 38) #[] #[.pointer (some ⟨pb, 0, none⟩)]] w fun e w' => e = .returned (.int .i64 (idx (hasB f) l)) ∧ Kept [] w w' := fun _ _ =>
    indexFunc_add (.pointer (some ⟨pb, 0, none⟩)) (hasB f) (fun w => w.cell? ⟨pb, 0, none⟩ = some (.int .i64 f)) (fun w w' h k => by rw [k.cell (World.block_lt_of_cell? w _ h) (by simp)]; exact h) (fun p w hw => add1_any pb f p w hw) h.seq hw
  have HX := hid (hidx w (Kept.refl _ _))
  clear hidx
  rcases idx_split (p := hasB f) (l := l) with ⟨e, hn⟩ | ⟨i0, hi0, e, hp, hn⟩
  · have E := hid (del_none hn)
    rw [e] at HX
    clear e
    go_enter Try.func36, Try.ntmps36
    go_wp2_with (go_at_call 43; refine HX.out.mono ?_; rintro e w1 ⟨rfl, hk1⟩)
    go_ret
    rw [E.out]
    exact ⟨a, cap, rfl, h.later hk1⟩
  · rw [e] at HX
    clear e
    have hm : Mix l l f i0 (i0 + 1) := ⟨rfl, by rw [del_snoc l f i0 hi0, if_pos hp]; exact (del_to hn).symm, rfl, by omega, hi0⟩
    have hne : ((i0 : Int) == -1) = false := by rw [beq_eq_false_iff_ne]; omega
    obtain ⟨g, cur, rfl, hg, hncap, hcm, _⟩ := row_some h.row (by omega)
    have hgw := lt_of_heap hg
    have hgn : w0.heap.size ≤ g := h.new g (by simp [fp])
    have HM := hid hm
    clear hm
    unfold maxLen at hcm
    go_enter Try.func36, Try.ntmps36
    go_wp2_with (go_at_call 43; refine HX.out.mono ?_; rintro e w1 ⟨rfl, hk1⟩)
    go_loopw [5, 6] (fun iv jv wr => ∃ (i j : Nat) (mix : List Prf), iv = .int .i64 i ∧ jv = .int .i64 j ∧ Hid (Mix l mix f i j) ∧ wr.ownsRow 0 36 2 (.slice (some ⟨g, 0, none⟩) l.length cap) l.length (prfsV mix) ∧ Kept [g] w wr) (fun _ jv _ => l.length - (intOf jv).toNat)
    case atStart => exact ⟨i0, i0 + 1, l, rfl, by first | rfl | go_num, HM, row_kept h.row hk1 (by simp), hk1.mono (by simp)⟩
    case round =>
      obtain ⟨i, j, mix, rfl, rfl, HMx, hrow, hkw⟩ := hrel
      have hij := HMx.out.lt
      have hjl := HMx.out.le
      by_cases hlt : j < l.length
      · obtain ⟨hjm, hmj⟩ := HMx.out.get hlt
        obtain ⟨q0, q1⟩ := prfsV_get mix j hjm
        rw [hmj] at q0 q1
        have hc0 := row_cell hrow q0
        have hc1 := row_cell hrow q1
        have hpw : wr.cell? ⟨pb, 0, none⟩ = some (.int .i64 f) := by rw [hkw.cell (World.block_lt_of_cell? w _ hw) (by simp; omega)]; exact hw
        have hgr : g < wr.heap.size := Nat.lt_of_lt_of_le hgw hkw.size
        have hb1 : (0 : Int) ≤ j := by omega
        have hb2 : (j : Int) < l.length := by omega
        have hi1 : (0 : Int) ≤ i := by omega
        have hi2 : (i : Int) < l.length := by omega
        have HC := hid (add1_any pb f l[j] (wr.alloc (.cells #[.int .i64 l[j].1, .int .i64 l[j].2] 36 (0, 0))) (by rw [((Kept.refl [] wr).alloc _).cell (World.block_lt_of_cell? wr _ hpw) (by simp)]; exact hpw))
        have hbx := heap_alloc_new wr (.cells #[.int .i64 l[j].1, .int .i64 l[j].2] 36 (0, 0))
        cases hp2 : hasB f l[j]
        · have HM2 := hid (HMx.out.put hlt hp2)
          rw [hp2] at HC
          clear hp2 q0 q1
          have him : i < mix.length := by omega
          obtain ⟨z0, z1⟩ := prfsV_get mix i him
          clear hmj
          go_wp2_with (go_at_call 38; refine HC.out.mono ?_; rintro e w2 ⟨rfl, hk2⟩; have hrow2 := row_kept (row_kept hrow ((Kept.refl [] wr).alloc (.cells #[.int .i64 l[j].1, .int .i64 l[j].2] 36 (0, 0))) (by simp)) hk2 (by simp); have d0 := row_cell hrow2 z0; have d1 := row_cell hrow2 z1; have fz0 := hrow2.frozenAt (i * 2); have fz1 := hrow2.frozenAt (i * 2 + 1); have hb2' := hk2.at hbx (by simp); have b0 := cell_at hb2' 0; have b1 := cell_at hb2' 1; simp at b0 b1)
          go_roundw
          case rel =>
            have hr2 := ((hrow2.stored (i * 2) (.int .i64 l[j].1)).1.stored (i * 2 + 1) (.int .i64 l[j].2)).1
            rw [← prfsV_set mix i him] at hr2
            exact ⟨i + 1, j + 1, _, by go_num, by go_num, HM2, hr2, ((((hkw.alloc _).step hk2 (by simp)).setCell (.inl (by simp)) _).setCell (.inl (by simp)) _)⟩
          case measure => simp [intOf]; omega
        · have HM2 := hid (HMx.out.skip hlt hp2)
          rw [hp2] at HC
          clear hp2
          go_wp2_with (go_at_call 38; refine HC.out.mono ?_; rintro e w2 ⟨rfl, hk2⟩; have hb2' := hk2.at hbx (by simp); have b0 := cell_at hb2' 0; have b1 := cell_at hb2' 1; simp at b0 b1)
          go_roundw
          case rel => exact ⟨i, j + 1, mix, rfl, by go_num, HM2, row_kept (row_kept hrow ((Kept.refl [] wr).alloc _) (by simp)) hk2 (by simp), (hkw.alloc _).step hk2 (by simp)⟩
          case measure => simp [intOf]; omega
      · obtain rfl : j = l.length := by omega
        obtain ⟨g', cur, e, hg', _, _, hcs, htk⟩ := row_some hrow (by omega)
        injection e with e; injection e with e
        subst e
        have hfr := HMx.out.front
        rw [List.take_length] at hfr
        have hlen2 : (delL l f).length = i := by rw [← hfr]; simp; have := HMx.out.len; omega
        have hcl := fun ty => run_clear_own (P := Try.prog) wr 22 36 ty (.agg #[.int .i64 0, .int .i64 0]) Try.underlying22 (fun _ => by kernel_rfl) (by decide) (by decide) g (i * 2) (l.length - i) (cap - i) (by omega) cur hg' (by rw [hcs]; simp [Value.cells]; omega)
        have hi1 : (0 : Int) ≤ i := by omega
        have hi2 : (i : Int) ≤ l.length := by omega
        have hi3 : (l.length : Int) ≤ cap := by omega
        have hi4 : (i : Int) ≤ cap := by omega
        have HF := hid hfr
        have HL2 := hid hlen2
        have HT := hid htk
        have HCS := hid hcs
        clear hfr hlen2 htk hcs
        go_wp2_with fail
        go_ret
        rw [HL2.out]
        have hzl : (Builtin.zeroCells #[.int .i64 0, .int .i64 0] (l.length - i)).size = (l.length - i) * 2 := by simp [Builtin.zeroCells]
        refine ⟨some ⟨g, 0, none⟩, cap, rfl, ⟨?_, ?_⟩, ?_, h.new⟩
        · rw [prfsV_len]
        · right
          refine ⟨g, cap, _, by rw [HL2.out], Nat.zero_le _, setRow_heap wr g cur _ _ _ hg', by rw [HL2.out]; omega, by unfold maxLen; omega, ?_, ?_⟩
          · simp only [List.size_toArray, List.length_append, List.length_take, List.length_drop, Array.length_toList, hzl, HCS.out]
            omega
          · rw [HL2.out]
            show List.take (i * 2) (cur.toList.take (i * 2) ++ (_ ++ _)) = _
            rw [List.take_append_of_le_length (by simp [HCS.out]; omega), List.take_take, Nat.min_self]
            rw [show cur.toList.take (i * 2) = (cur.toList.take (l.length * 2)).take (i * 2) by rw [List.take_take, Nat.min_eq_left (by omega)], HT.out, ← HF.out]
            exact prfsV_take mix i
        · exact (h.kept.trans hkw (by simp; omega)).grown (row := some g) ⟨rfl, rfl, rfl, by simp, fun k _ hk => setRow_other wr g k _ (fun e => hk (by rw [e]))⟩ (fun i hi => by injection hi with hi; right; omega)

/-! ### Add -/
/-- The error of Add. -/
def addE (p : Prf) : Int := if p.1 < 1 ∨ 4 < p.1 then 2 else if p.2 < 0 ∨ 1099511627776 < p.2 then 27 else 0
set_option maxHeartbeats 400000 in
theorem climited_any (t : Int) (w : World) :
    Calls Try.prog 39 #[.int .i64 t] w fun e w' => e = .returned (.int .i64 (lim t)) ∧ w = w' := by
  go_enter Try.func39, Try.ntmps39
  go_wp2
  all_goals (go_ret; exact ⟨ret_int (by unfold lim; omega), rfl⟩)
set_option maxHeartbeats 400000 in
theorem valid_any (t : Int) (w : World) :
    Calls Try.prog 35 #[.int .i64 t] w fun e w' => e = .returned (.bool (t == lim t)) ∧ w = w' := by
  go_enter Try.func35, Try.ntmps35
  go_wp2_with (go_at_call 39; refine (climited_any _ _).mono ?_; rintro e w' ⟨rfl, rfl⟩)
  go_ret
  exact ⟨rfl, rfl⟩
/-- What Add leaves. -/
structure Added (w w' : World) (e : Ending) (l : List Prf) (p : Prf) : Prop where
  err : addE p ≠ 0 → e = .returned (.tuple #[.slice none 0 0, .int .i64 (addE p)]) ∧ Kept [] w w'
  ok : addE p = 0 → ∃ a' cap', e = .returned (.tuple #[.slice a' (delL l p.1 ++ [p]).length cap', .int .i64 0]) ∧ Own w w' a' cap' (delL l p.1 ++ [p])

set_option maxHeartbeats 1000000 in
theorem add_any {w : World} {a : Option Addr} {cap : Nat} {l : List Prf} (h : PrfsAt w a l) (hlen : l.length ≤ 1000) (p : Prf) :
    Calls Try.prog 22 #[.slice a l.length cap, prfV p] w fun e w' => Added w w' e l p := by
  have hbx := heap_alloc_new w (.cells #[.int .i64 p.1, .int .i64 p.2] 36 (0, 0))
  by_cases h1 : p.1 < 1
  · have E : addE p = 2 := by simp [addE, h1]
    have HE := hid E
    clear E
    go_enter Try.func22, Try.ntmps22
    go_wp2_with fail
    go_ret2
    exact ⟨fun _ => by rw [HE.out]; exact ⟨rfl, (Kept.refl [] w).alloc _⟩, fun e => by rw [HE.out] at e; cases e⟩
  by_cases h2 : 4 < p.1
  · have E : addE p = 2 := by simp [addE, h2]
    have HE := hid E
    clear E
    go_enter Try.func22, Try.ntmps22
    go_wp2_with fail
    go_ret2
    exact ⟨fun _ => by rw [HE.out]; exact ⟨rfl, (Kept.refl [] w).alloc _⟩, fun e => by rw [HE.out] at e; cases e⟩
  by_cases h3 : p.2 < 0 ∨ 1099511627776 < p.2
  · have E : addE p = 27 := by simp [addE, h1, h2, h3]
    have HE := hid E
    have hv : (p.2 == lim p.2) = false := by rw [beq_eq_false_iff_ne]; unfold lim; omega
    clear E h3
    go_enter Try.func22, Try.ntmps22
    go_wp2_with (go_at_call 35; refine (valid_any _ _).mono ?_; rintro e w' ⟨rfl, rfl⟩)
    go_ret2
    exact ⟨fun _ => by rw [HE.out]; exact ⟨rfl, (Kept.refl [] w).alloc _⟩, fun e => by rw [HE.out] at e; cases e⟩
  · have E : addE p = 0 := by simp [addE, h1, h2, h3]
    have HE := hid E
    have hv : (p.2 == lim p.2) = true := by rw [beq_iff_eq]; unfold lim; omega
    have hd := h.kept ((Kept.refl [] w).alloc (.cells #[.int .i64 p.1, .int .i64 p.2] 36 (0, 0)))
    obtain ⟨i0, hi, hz0, hz1, hz2⟩ := info_parts infoPrf
    have hll : (delL l p.1).length ≤ l.length := List.length_filter_le _ _
    clear E h3
    go_enter Try.func22, Try.ntmps22
    go_wp2_with (first
      | (go_at_call 35; refine (valid_any _ _).mono ?_; rintro e w' ⟨rfl, rfl⟩)
      | (go_at_call 37; refine (clone_any hd hlen).mono ?_; rintro e w1 ⟨a1, cap1, rfl, ho1⟩; have hb1 := ho1.kept.at hbx (by simp)))
    refine (delete_any w.heap.size p.1 ho1 hlen (by rw [cell_at hb1]; rfl) (by simp)).mono ?_
    rintro e w2 ⟨a2, cap2, rfl, ho2⟩
    have hb2 := ho2.kept.at hbx (by simp)
    have b0 := cell_at hb2 0
    have b1 := cell_at hb2 1
    simp at b0 b1
    go_wp2_with (at_builtin; refine wpList_append_lies _ rfl _ _ _ rfl 0 36 i0 _ 2 16 Try.underlying22 hi hz0 hz1 hz2 rfl (by omega) _ _ _ rfl (ho2.row.alloc _) ⟨w2.heap.size, 0, none⟩ 1 1 [.int .i64 p.1, .int .i64 p.2] rfl rfl (cell_two_new _ _ _ _) (prf_one p) (by omega) (by unfold maxLen; omega) (by omega) (Nat.zero_le _) (w2.heap.size + 1) (by simp) ?_; intro g2 cap3 w3 hown hgrow hat hlt2)
    go_ret2
    have ho3 := ho2.push ((Kept.refl [] w2).alloc _) hown hgrow (hat.imp id (fun e => by rw [e]; simp))
    refine ⟨fun e => absurd HE.out e, fun _ => ⟨some ⟨g2, 0, none⟩, cap3, by simp, ho3.row, ?_, fun i hi => ?_⟩⟩
    · exact ((Kept.refl [] w).alloc _).step ho3.kept (by simp)
    · have := ho3.new i hi; simp at this; omega

set_option maxHeartbeats 1000000 in
set_option maxRecDepth 100000 in
theorem radd_any {w : World} {a : Option Addr} {cap : Nat} {l : List Prf} (h : PrfsAt w a l) (hlen : l.length ≤ 1000) (p : Prf) :
    Calls Try.prog 23 #[.slice a l.length cap, prfV p] w fun e w' => Added w w' e l p := by
  have hbx := heap_alloc_new w (.cells #[.int .i64 p.1, .int .i64 p.2] 36 (0, 0))
  by_cases h1 : p.1 < 1
  · have E : addE p = 2 := by simp [addE, h1]
    have HE := hid E
    clear E
    go_enter Try.func23, Try.ntmps23
    go_wp2_with fail
    go_ret2
    exact ⟨fun _ => by rw [HE.out]; exact ⟨rfl, (Kept.refl [] w).alloc _⟩, fun e => by rw [HE.out] at e; cases e⟩
  by_cases h2 : 4 < p.1
  · have E : addE p = 2 := by simp [addE, h2]
    have HE := hid E
    clear E
    go_enter Try.func23, Try.ntmps23
    go_wp2_with fail
    go_ret2
    exact ⟨fun _ => by rw [HE.out]; exact ⟨rfl, (Kept.refl [] w).alloc _⟩, fun e => by rw [HE.out] at e; cases e⟩
  by_cases h3 : p.2 < 0
  · have E : addE p = 27 := by simp [addE, h1, h2, h3]
    have HE := hid E
    clear E
    go_enter Try.func23, Try.ntmps23
    go_wp2_with fail
    go_ret2
    exact ⟨fun _ => by rw [HE.out]; exact ⟨rfl, (Kept.refl [] w).alloc _⟩, fun e => by rw [HE.out] at e; cases e⟩
  by_cases h4 : 1099511627776 < p.2
  · have E : addE p = 27 := by simp [addE, h1, h2, h4]
    have HE := hid E
    clear E
    go_enter Try.func23, Try.ntmps23
    go_wp2_with fail
    go_ret2
    exact ⟨fun _ => by rw [HE.out]; exact ⟨rfl, (Kept.refl [] w).alloc _⟩, fun e => by rw [HE.out] at e; cases e⟩
  have E : addE p = 0 := by simp [addE, h1, h2, h3, h4]
  have HE := hid E
  obtain ⟨i0, hi, hz0, hz1, hz2⟩ := info_parts infoPrf
  clear E
  go_enter Try.func23, Try.ntmps23
  go_wp2_with fail
  go_loopw [6, 7] (fun v i wr => ∃ (k : Nat) (a' : Option Addr) (cap' : Nat), k ≤ l.length ∧ i = .int .i64 k ∧ v = .slice a' (delL (l.take k) p.1).length cap' ∧ Own (w.alloc (.cells #[.int .i64 p.1, .int .i64 p.2] 36 (0, 0))) wr a' cap' (delL (l.take k) p.1)) (fun _ i _ => l.length - (intOf i).toNat)
  case atStart => exact ⟨0, none, 0, Nat.zero_le _, rfl, rfl, Own.start _⟩
  case round =>
    obtain ⟨k, a', cap', hk, rfl, rfl, ho⟩ := hrel
    have hkw : Kept [] w wr := ((Kept.refl [] w).alloc _).step ho.kept (by simp)
    have hb2 := ho.kept.at hbx (by simp)
    have b0 := cell_at hb2 0
    have b1 := cell_at hb2 1
    simp at b0 b1
    by_cases hlt : k < l.length
    · obtain ⟨b, off, rfl, hb, hc0, hc1⟩ := (h.kept hkw).at hlt
      have hb1 : (0 : Int) ≤ k := by omega
      have hb2 : (k : Int) < l.length := by omega
      have hll : (delL (l.take k) p.1).length ≤ l.length := Nat.le_trans (List.length_filter_le _ _) (by simp; omega)
      have hsn := hid (del_snoc l p.1 k hlt)
      cases hv : hasB p.1 l[k]
      · have he : (l[k].1 == p.1) = false := hv
        have HV := hid hv
        clear hv
        go_wp2_with fail
        go_quiet (fail)
        go_wp2_with (at_builtin; refine wpList_append_lies _ rfl _ _ _ rfl 0 36 i0 _ 2 16 Try.underlying22 hi hz0 hz1 hz2 rfl (by omega) _ _ _ rfl ((row_drewN ho.row _).alloc _) ⟨wr.heap.size, 0, none⟩ 1 1 [.int .i64 l[k].1, .int .i64 l[k].2] rfl rfl (cell_two_new _ _ _ _) (prf_one l[k]) (by omega) (by unfold maxLen; omega) (by omega) (Nat.zero_le _) (wr.heap.size + 1) (by simp) ?_; intro g2 cap3 w3 hown hgrow hat hlt2)
        go_roundw
        case rel =>
          have e : delL (l.take (k + 1)) p.1 = delL (l.take k) p.1 ++ [l[k]] := by rw [hsn.out, if_neg (by rw [HV.out]; simp)]
          refine ⟨k + 1, some ⟨g2, 0, none⟩, cap3, by omega, by go_num, by rw [e]; simp, ?_⟩
          rw [e]
          exact ho.push (((Kept.refl [] wr).drewN _).alloc _) hown hgrow (hat.imp id (fun e => by rw [e]; simp))
        case measure => simp [intOf]; omega
      · have he : (l[k].1 == p.1) = true := hv
        have HV := hid hv
        clear hv
        go_wp2_with fail
        go_quiet (fail)
        go_wp2_with fail
        go_roundw
        case rel =>
          have e : delL (l.take (k + 1)) p.1 = delL (l.take k) p.1 := by rw [hsn.out, if_pos HV.out]
          exact ⟨k + 1, a', cap', by omega, by go_num, by rw [e], by rw [e]; exact ho.later ((Kept.refl [] wr).drewN _)⟩
        case measure => simp [intOf]; omega
    · have e1 : l.take k = l := List.take_of_length_le (by omega)
      rw [e1] at ho ⊢
      have hll : (delL l p.1).length ≤ l.length := List.length_filter_le _ _
      go_wp2_with (at_builtin; refine wpList_append_lies _ rfl _ _ _ rfl 0 36 i0 _ 2 16 Try.underlying22 hi hz0 hz1 hz2 rfl (by omega) _ _ _ rfl (ho.row.alloc _) ⟨wr.heap.size, 0, none⟩ 1 1 [.int .i64 p.1, .int .i64 p.2] rfl rfl (cell_two_new _ _ _ _) (prf_one p) (by omega) (by unfold maxLen; omega) (by omega) (Nat.zero_le _) (wr.heap.size + 1) (by simp) ?_; intro g2 cap3 w3 hown hgrow hat hlt2)
      go_ret2
      have ho3 := ho.push ((Kept.refl [] wr).alloc _) hown hgrow (hat.imp id (fun e => by rw [e]; simp))
      refine ⟨fun e => absurd HE.out e, fun _ => ⟨some ⟨g2, 0, none⟩, cap3, by simp, ho3.row, ?_, fun i hi => ?_⟩⟩
      · exact ((Kept.refl [] w).alloc _).step ho3.kept (by simp)
      · have := ho3.new i hi; simp at this; omega
end Go.Proofs.Ytmipnhdfhgekkaa
